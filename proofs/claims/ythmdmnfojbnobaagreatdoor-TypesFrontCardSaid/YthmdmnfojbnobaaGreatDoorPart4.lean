/-
  Steps of the proof: contracts of functions and plain facts that the statement rests on.
-/
import Derived.Test.YthmdmnfojbnobaaGreatDoorPart3
import Derived.Test.YthmdmnfojbnobaaGreatDoorPart2
set_option linter.all false
namespace Go.Proofs.YthmdmnfojbnobaaGreatDoor
open Go.Ab
def okB : TK -> Bool
 | .wd s => !s.isEmpty && (decide (cAt s 0 = 2) && (s.all (fun c => decide (cls c.toNat = 2) || decide (cls c.toNat = 3)) && decide (s.length ≤ 40)))
 | .sg s => (match s with | [c] => sgls.contains c | _ => dbls.contains s)
 | .nm n => decide (n ≤ 1000000000)
def sepB (k : TK) (c : UInt8) : Bool := match k with
 | .sg s => decide (s.length = 2) || (decide (c ≠ 61) && decide (c ≠ 46))
 | _ => decide (cls c.toNat ≠ 2) && decide (cls c.toNat ≠ 3)
def fb (l : List Pc) (c : UInt8) : UInt8 := (txt l ++ [c]).headD 0
def gd : List Pc -> UInt8 -> Bool
 | [], _ => true
 | .b x :: r, c => (decide (x = 32) || decide (x = 10)) && gd r c
 | .t k :: r, c => okB k && (sepB k (fb r c) && gd r c)
theorem okB_ok {k : TK} (h : okB k = true) : k.ok := by
 cases k with
 | wd s =>
  simp only [okB, Bool.and_eq_true, decide_eq_true_eq, Bool.not_eq_true', List.isEmpty_eq_false_iff, List.all_eq_true, Bool.or_eq_true] at h
  refine ⟨h.1, h.2.1, fun i hi => ?_, h.2.2.2⟩
  have := h.2.2.1 s[i] (List.getElem_mem hi)
  unfold cAt
  rw [List.getD_eq_getElem?_getD, List.getElem?_eq_getElem hi]
  exact this
 | sg s =>
  match s, h with
  | [c], h => exact .inl ⟨c, by simpa [okB] using h, rfl⟩
  | [], h => exact .inr (by simpa [okB] using h)
  | a :: b :: r, h => exact .inr (by simpa [okB] using h)
 | nm n => exact of_decide_eq_true (p := n ≤ 1000000000) h
theorem sepB_ok {k : TK} {r : List UInt8} (h : sepB k (r.getD 0 0) = true) : k.sep r := by
 cases k with
 | wd s => simpa [sepB, TK.sep, cAt] using h
 | sg s => simpa [sepB, TK.sep] using h
 | nm n => simpa [sepB, TK.sep, cAt] using h
theorem fb_eq (a : List Pc) (b : List Pc) : fb a ((txt b).getD 0 0) = (txt (a ++ b)).getD 0 0 := by
 unfold fb
 rw [txt_app]
 cases txt a <;> simp
theorem gd_ok {b : List Pc} (hb : good b) : ∀ a : List Pc, gd a ((txt b).getD 0 0) = true -> good (a ++ b)
 | [], _ => hb
 | .b x :: r, h => by
  simp only [gd, Bool.and_eq_true, Bool.or_eq_true, decide_eq_true_eq] at h
  exact ⟨h.1, gd_ok hb r h.2⟩
 | .t k :: r, h => by
  simp only [gd, Bool.and_eq_true] at h
  refine ⟨okB_ok h.1, sepB_ok ?_, gd_ok hb r h.2.2⟩
  have := h.2.1
  rw [fb_eq] at this
  exact this
theorem fb_app (a b : List Pc) (c : UInt8) : fb (a ++ b) c = fb a (fb b c) := by
 unfold fb
 rw [txt_app]
 cases txt a <;> simp
theorem gd_app : ∀ {a b : List Pc} {c : UInt8}, gd a (fb b c) = true -> gd b c = true -> gd (a ++ b) c = true
 | [], _, _, _, h => h
 | .b x :: r, b, c, h, hb => by
  simp only [gd, Bool.and_eq_true, List.cons_append] at h ⊢
  exact ⟨h.1, gd_app h.2 hb⟩
 | .t k :: r, b, c, h, hb => by
  simp only [gd, Bool.and_eq_true, List.cons_append] at h ⊢
  rw [fb_app]
  exact ⟨h.1, h.2.1, gd_app h.2.2 hb⟩
def fols : List UInt8 := [32, 44, 59, 41, 10]
def allG (n m : Nat) (f : GX -> Bool) : Bool := (List.range n).all fun k => (List.range m).all fun x => (List.range m).all fun y => f ⟨k, x, y⟩
theorem allG_of {n m : Nat} {f : GX -> Bool} (h : allG n m f = true) {g : GX} {v : Nat} (hv : v ≤ m) (hg : g.Wf v n) : f g = true := by
 unfold allG at h
 simp only [List.all_eq_true, List.mem_range] at h
 obtain ⟨h1, h2, h3⟩ := hg
 exact h _ h1 _ (by omega) _ (by omega)
theorem gd_exq : allG 8 3 (fun g => fols.all fun c => gd (exPc g) c) = true := by kernel_rfl
theorem gd_cdq : allG 4 3 (fun g => fols.all fun c => gd (cdPc g) c) = true := by kernel_rfl
theorem gd_ex {g : GX} {v : Nat} (hv : v ≤ 3) (hg : g.Wf v 8) {c : UInt8} (hc : c ∈ fols) : gd (exPc g) c = true := List.all_eq_true.1 (allG_of gd_exq hv hg) c hc
theorem gd_cd {g : GX} {v : Nat} (hv : v ≤ 3) (hg : g.Wf v 4) {c : UInt8} (hc : c ∈ fols) : gd (cdPc g) c = true := List.all_eq_true.1 (allG_of gd_cdq hv hg) c hc
def upto (n : Nat) (f : Nat -> Bool) : Bool := (List.range n).all f
theorem upto_of {n : Nat} {f : Nat -> Bool} (h : upto n f = true) {k : Nat} (hk : k < n) : f k = true := List.all_eq_true.1 h k (List.mem_range.2 hk)
def Wh (c : UInt8) : Prop := c = 32 ∨ c = 10
def GW (a : List Pc) : Prop := ∀ c, Wh c -> gd a c = true
def wst : List Pc -> Bool
 | [] => true
 | .b x :: _ => decide (x = 32) || decide (x = 10)
 | _ => false
theorem fb_w {b : List Pc} {c : UInt8} (h : wst b = true) (hc : Wh c) : Wh (fb b c) := by
 match b, h with
 | [], _ => exact hc
 | .b x :: r, h =>
  show Wh x
  simpa [wst, Wh] using h
theorem GW.app {a b : List Pc} (ha : GW a) (hb : GW b) (hw : wst b = true) : GW (a ++ b) := fun c hc => gd_app (ha _ (fb_w hw hc)) (hb c hc)
theorem GW.of {a : List Pc} (h : (gd a 32 && gd a 10) = true) : GW a := by
 rw [Bool.and_eq_true] at h
 rintro c (rfl | rfl)
 · exact h.1
 · exact h.2
theorem GW.b {a : List Pc} (h : GW a) : GW (pb :: a) := fun c hc => by
 have := h c hc
 simp [gd, this]
theorem GW.n {a : List Pc} (h : GW a) : GW (pnl :: a) := fun c hc => by
 have := h c hc
 simp [gd, pnl, this]
theorem GW.nil : GW [] := fun _ _ => rfl
theorem GW.ex {a b : List Pc} (c0 : UInt8) (ha : gd a c0 = true) (hb : GW b) (hf : ∀ c, fb b c = c0) : GW (a ++ b) := fun c hc => gd_app (by rw [hf]; exact ha) (hb c hc)
def GY (a : List Pc) : Prop := ∀ c, gd a c = true
theorem GW.nl {a : List Pc} (h : GW a) : GY (a ++ [pnl]) := fun c => gd_app (h 10 (.inr rfl)) rfl
theorem GY.app {a b : List Pc} (ha : GY a) (hb : GY b) : GY (a ++ b) := fun c => gd_app (ha _) (hb c)
theorem gw_set {s : Nat × GX} {v : Nat} (hv : v ≤ 3) (h : s.1 < v ∧ s.2.Wf v 8) : GW (setPx s) := by
 have q : upto 3 (fun x => gd [pb, pw (vN x), pb, ps [61]] 32 && gd [pb, pw (vN x), pb, ps [61]] 10) = true := by kernel_rfl
 have h1 := GW.of (upto_of q (show s.1 < 3 by omega))
 have h2 : GW (exPc s.2 ++ [ps [59]]) := GW.ex 59 (gd_ex hv h.2 (by decide)) (GW.of (by kernel_rfl)) fun _ => rfl
 have := h1.app h2.b rfl
 simpa [setPx] using this
theorem gw_sets {v : Nat} (hv : v ≤ 3) : ∀ l : List (Nat × GX), (∀ s ∈ l, s.1 < v ∧ s.2.Wf v 8) -> GW (l.flatMap setPx) ∧ wst (l.flatMap setPx) = true
 | [], _ => ⟨GW.nil, rfl⟩
 | s :: r, h => by
  obtain ⟨h1, h2⟩ := gw_sets hv r fun x hx => h x (by simp [hx])
  rw [List.flatMap_cons]
  exact ⟨(gw_set hv (h s (by simp))).app h1 h2, rfl⟩
theorem gw_wh {w : Option GX} {v : Nat} (hv : v ≤ 3) (h : ∀ c, w = some c -> c.Wf v 4) : GW (whPx w) ∧ wst (whPx w) = true := by
 cases w with
 | none => exact ⟨GW.nil, rfl⟩
 | some g =>
  refine ⟨?_, rfl⟩
  have h1 : GW [pb, pw kwWh] := GW.of (by kernel_rfl)
  have h2 : GW (cdPc g) := fun c hc => gd_cd hv (h g rfl) (by rcases hc with rfl | rfl <;> decide)
  exact h1.app h2.b rfl
theorem gw_flag (b : Bool) : GW (flagPc kwH b) ∧ wst (flagPc kwH b) = true := by
 cases b with
 | true => exact ⟨GW.of (by kernel_rfl), rfl⟩
 | false => exact ⟨GW.nil, rfl⟩
theorem gw_go {g : Option Nat} (h : ∀ t, g = some t -> t ≤ 4) : GW (goPx g) ∧ wst (goPx g) = true := by
 cases g with
 | none => exact ⟨GW.nil, rfl⟩
 | some t =>
  have q : upto 5 (fun t => gd (goPx (some t)) 32 && gd (goPx (some t)) 10) = true := by kernel_rfl
  exact ⟨GW.of (upto_of q (by have := h t rfl; omega)), rfl⟩
theorem gw_act {k : Nat} (hk : k < 3) {g : GA} {v i n : Nat} (hv : v ≤ 3) (hn : n ≤ 4) (h : g.Wf v i n) : GY (actPx k g) := by
 have q : upto 3 (fun k => gd [pb, pb, pw kwAc, pb, pw (aN k)] 32 && gd [pb, pb, pw kwAc, pb, pw (aN k)] 10) = true := by kernel_rfl
 have h1 := GW.of (upto_of q hk)
 obtain ⟨h2, w2⟩ := gw_wh hv h.wh
 obtain ⟨h3, w3⟩ := gw_flag g.hid
 obtain ⟨h4, w4⟩ := gw_sets hv g.sets h.sets
 obtain ⟨h5, w5⟩ := gw_go (g := g.go) fun t ht => by have := h.go t ht; omega
 have b1 : GW [pb, ps [123]] := GW.of (by kernel_rfl)
 have b2 : GW [pb, ps [125]] := GW.of (by kernel_rfl)
 exact ((((((h1.app h2 w2).app h3 w3).app b1 rfl).app h4 w4).app b2 rfl).app h5 w5).nl
theorem gw_acts {v i n : Nat} (hv : v ≤ 3) (hn : n ≤ 4) : ∀ (l : List GA) (k : Nat), k + l.length ≤ 3 -> (∀ a ∈ l, a.Wf v i n) -> GY (actsPx k l)
 | [], _, _, _ => fun _ => rfl
 | g :: r, k, hk, h => by
  simp only [List.length_cons] at hk
  exact (gw_act (by omega) hv hn (h g (by simp))).app (gw_acts hv hn r (k + 1) (by omega) fun a ha => h a (by simp [ha]))
theorem gw_who {w : Option GX} {p v : Nat} (hv : v ≤ 3) (hp : p < 3) (h : ∀ c, w = some c -> c.Wf v 4) : GW (whoPx w p) := by
 cases w with
 | none =>
  have q : upto 3 (fun p => gd [pn p] 32 && gd [pn p] 10) = true := by kernel_rfl
  exact GW.of (upto_of q hp)
 | some g =>
  have q : upto 3 (fun p => gd [ps [44], pb, pn 0, ps [44], pb, pn p, ps [41]] 32 && gd [ps [44], pb, pn 0, ps [44], pb, pn p, ps [41]] 10) = true := by kernel_rfl
  have h1 : GW (cdPc g ++ [ps [44], pb, pn 0, ps [44], pb, pn p, ps [41]]) := GW.ex 44 (gd_cd hv (h g rfl) (by decide)) (GW.of (upto_of q hp)) fun _ => rfl
  have f : upto 4 (fun k => (List.range 3).all fun x => (List.range 3).all fun y => decide (cls (fb (cdPc ⟨k, x, y⟩) 0).toNat ≠ 61) && (gd [pw wIf, ps [40]] (fb (cdPc ⟨k, x, y⟩) 0) && !(txt (cdPc ⟨k, x, y⟩)).isEmpty)) = true := by kernel_rfl
  obtain ⟨g1, g2, g3⟩ := h g rfl
  have f2 := upto_of f g1
  simp only [List.all_eq_true, List.mem_range, Bool.and_eq_true] at f2
  obtain ⟨_, f3, f4⟩ := f2 g.x (by omega) g.y (by omega)
  intro c hc
  have e : whoPx (some g) p = [pw wIf, ps [40]] ++ (cdPc g ++ [ps [44], pb, pn 0, ps [44], pb, pn p, ps [41]]) := by simp [whoPx]
  rw [e]
  refine gd_app ?_ (h1 c hc)
  rw [fb_app]
  have e2 : ∀ c', fb (cdPc g) c' = fb (cdPc g) 0 := by
   intro c'
   unfold fb
   have f5 : (txt (cdPc g)).isEmpty = false := by simpa using f4
   cases hq : txt (cdPc g) with
   | nil => rw [hq] at f5; cases f5
   | cons a r => rfl
  rw [e2]; exact f3
theorem gw_turn {w : Option GX} {p pl v i n : Nat} {acts : List GA} (hv : v ≤ 3) (hn : n ≤ 4) (hp3 : pl ≤ 3) (h : (GS.turn w p acts).Wf pl v n i) : GY (turnPx w p acts) := by
 obtain ⟨h1, h2, h3, h4, h5⟩ := h
 have g1 : GW [pw kwT] := GW.of (by kernel_rfl)
 have g2 := gw_who hv (show p < 3 by omega) h1
 have g3 : GW [pb, ps [123]] := GW.of (by kernel_rfl)
 have g4 := gw_acts hv hn acts 0 (by omega) h5
 have g5 : GY [ps [125], pnl] := GW.nl (a := [ps [125]]) (GW.of (by kernel_rfl))
 have := (((g1.app g2.b rfl).app g3 rfl).nl.app g4).app g5
 simpa [turnPx] using this
theorem gw_deal {x r w s p pl v n i : Nat} (hv : v ≤ 3) (hp3 : pl ≤ 3) (h : (GS.deal x r w s p).Wf pl v n i) : GY (dealPx x r w s p) := by
 obtain ⟨h1, h2, h3, h4, h5⟩ := h
 have q1 : upto 3 (fun x => (List.range 4).all fun r => gd [pw kwD, pb, pw (vN x), pb, pw kwI, pb, pn (loV r), pb, ps [46, 46], pb, pn (hiV r)] 32 && gd [pw kwD, pb, pw (vN x), pb, pw kwI, pb, pn (loV r), pb, ps [46, 46], pb, pn (hiV r)] 59) = true := by kernel_rfl
 have q2 : upto 3 (fun x => (List.range 4).all fun w => gd (wgPx w x) 32 && gd (wgPx w x) 59) = true := by kernel_rfl
 have q3 : upto 3 (fun s => (List.range 3).all fun p => gd (seePx s p) 59 && (decide (fb (seePx s p) 59 = 59) || decide (fb (seePx s p) 59 = 32))) = true := by kernel_rfl
 have q4 : upto 3 (fun x => (List.range 4).all fun w => (decide (fb (wgPx w x) 59 = 59) || decide (fb (wgPx w x) 59 = 32)) && decide (fb (wgPx w x) 32 = 32)) = true := by kernel_rfl
 have k1 := upto_of q1 (show x < 3 by omega)
 have k2 := upto_of q2 (show x < 3 by omega)
 have k3 := upto_of q3 h4
 have k4 := upto_of q4 (show x < 3 by omega)
 simp only [List.all_eq_true, List.mem_range, Bool.and_eq_true, Bool.or_eq_true, decide_eq_true_eq] at k1 k2 k3 k4
 have k1 := k1 r h2
 have k2 := k2 w h3
 have k3 := k3 p (by omega)
 have k4 := k4 w h3
 intro c
 have e : dealPx x r w s p = [pw kwD, pb, pw (vN x), pb, pw kwI, pb, pn (loV r), pb, ps [46, 46], pb, pn (hiV r)] ++ (wgPx w x ++ (seePx s p ++ [ps [59], pnl])) := by simp [dealPx]
 rw [e]
 have f1 : fb [ps [59], pnl] c = 59 := rfl
 have m1 : gd (seePx s p ++ [ps [59], pnl]) c = true := gd_app (by rw [f1]; exact k3.1) ((GW.nl (a := [ps [59]]) (GW.of (by kernel_rfl))) c)
 have f2 : fb (seePx s p ++ [ps [59], pnl]) c = 59 ∨ fb (seePx s p ++ [ps [59], pnl]) c = 32 := by rw [fb_app, f1]; exact k3.2
 have m2 : gd (wgPx w x ++ (seePx s p ++ [ps [59], pnl])) c = true := by
  refine gd_app ?_ m1
  rcases f2 with f2 | f2
  · rw [f2]; exact k2.2
  · rw [f2]; exact k2.1
 refine gd_app ?_ m2
 rw [fb_app]
 rcases f2 with f2 | f2
 · rw [f2]
   rcases k4.1 with k | k
   · rw [k]; exact k1.2
   · rw [k]; exact k1.1
 · rw [f2, k4.2]; exact k1.1
theorem gw_st {g : GS} {pl v n i : Nat} (hv : v ≤ 3) (hn : n ≤ 4) (hp3 : pl ≤ 3) (h : g.Wf pl v n i) : GY (stPx g) := by
 cases g with
 | deal x r w s p => exact gw_deal hv hp3 h
 | turn w p acts => exact gw_turn hv hn hp3 h
theorem gw_sts {pl v n : Nat} (hv : v ≤ 3) (hn : n ≤ 4) (hp3 : pl ≤ 3) : ∀ (l : List GS) (i : Nat), i + l.length ≤ 4 -> stsWf pl v n i l -> GY (stsPx i l)
 | [], _, _, _ => fun _ => rfl
 | g :: r, i, hi, h => by
  simp only [List.length_cons] at hi
  have q : upto 5 (fun i => gd [pw (sN i), ps [58]] 32) = true := by kernel_rfl
  have h1 : GY [pw (sN i), ps [58], pb] := fun c => gd_app (a := [pw (sN i), ps [58]]) (b := [pb]) (upto_of q (by omega)) rfl
  exact (h1.app (gw_st hv hn hp3 h.1)).app (gw_sts hv hn hp3 r (i + 1) (by omega) h.2)
theorem gw_ini : ∀ (l : List Nat) (i : Nat), i + l.length ≤ 3 -> (∀ c ∈ l, c < 4) -> GY (iniPx i l)
 | [], _, _, _ => fun _ => rfl
 | c :: r, i, hi, h => by
  simp only [List.length_cons] at hi
  have q : upto 3 (fun i => (List.range 4).all fun c => gd ([pw kwV, pb, pw (vN i), pb, ps [61], pb] ++ iniX c ++ [ps [59]]) 10) = true := by kernel_rfl
  have q2 := upto_of q (show i < 3 by omega)
  simp only [List.all_eq_true, List.mem_range] at q2
  have h1 : GY (([pw kwV, pb, pw (vN i), pb, ps [61], pb] ++ iniX c ++ [ps [59]]) ++ [pnl]) := fun d => gd_app (q2 c (h c (by simp))) rfl
  have := h1.app (gw_ini r (i + 1) (by omega) fun c hc => h c (by simp [hc]))
  simpa [iniPx] using this
theorem gw_pays {v : Nat} (hv : v ≤ 3) : ∀ (l : List GX) (b : Bool), (∀ x ∈ l, x.Wf v 8) -> gd (paysPx b l) 59 = true ∧ (b = true -> fb (paysPx b l) 59 = 59 ∨ fb (paysPx b l) 59 = 44)
 | [], _, _ => ⟨rfl, fun _ => .inl rfl⟩
 | g :: r, b, h => by
  obtain ⟨h1, h2⟩ := gw_pays hv r true fun x hx => h x (by simp [hx])
  have h3 : gd (exPc g ++ paysPx true r) 59 = true := gd_app (by rcases h2 rfl with e | e <;> rw [e] <;> exact gd_ex hv (h g (by simp)) (by decide)) h1
  cases b with
  | true => exact ⟨by
   have : gd ([ps [44], pb] ++ (exPc g ++ paysPx true r)) 59 = true := gd_app (a := [ps [44], pb]) rfl h3
   simpa [paysPx] using this, fun _ => .inr rfl⟩
  | false => exact ⟨by simpa [paysPx] using h3, fun h => by cases h⟩
theorem gen_good {g : GR} (h : g.Wf) : good (genPx g) := by
 have q1 : upto 9 (fun m => (List.range 4).all fun p => gd [pw kwG, pb, pw (gN m), ps [59], pnl, pw kwPl, pb, pn p, ps [59]] 10) = true := by kernel_rfl
 have q2 : upto 5 (fun i => gd [pw (sN i), ps [58], pb, pw kwE, pb, ps [123], pb, pw kwP] 32) = true := by kernel_rfl
 have k1 := upto_of q1 h.nm
 simp only [List.all_eq_true, List.mem_range] at k1
 have a1 : GY ([pw kwG, pb, pw (gN g.nm), ps [59], pnl, pw kwPl, pb, pn g.pl, ps [59]] ++ [pnl]) := fun c => gd_app (k1 g.pl (by have := h.pl3; omega)) rfl
 have a2 := gw_ini g.ini 0 (by have := h.inl; have := h.v3; omega) h.ini
 have a3 := gw_sts h.v3 h.st4 h.pl3 g.stages 0 (by have := h.st4; omega) h.sts
 have a4 : GY ([pw (sN g.stages.length), ps [58], pb, pw kwE, pb, ps [123], pb, pw kwP] ++ [pb]) := fun c => gd_app (upto_of q2 (by have := h.st4; omega)) rfl
 have a5 : GY (paysPx false g.pays ++ [ps [59], pb, ps [125], pnl]) := fun c => gd_app (gw_pays h.v3 g.pays false h.pays).1 ((GW.nl (a := [ps [59], pb, ps [125]]) (GW.of (by kernel_rfl))) c)
 have := gd_ok (b := []) trivial _ ((((a1.app a2).app a3).app a4).app a5 0)
 simpa [genPx] using this
end Go.Proofs.YthmdmnfojbnobaaGreatDoor
namespace Go.Proofs.YthmdmnfojbnobaaGreatDoor
open Go.Ab
section
variable {H : List AO} {j : Nat} {l : List Int} {a : Nat}
theorem mvD_cl (hcl : closed H) (b : Nat) : closed (mvD H j l b) := closed_set hcl j (by simp [drO])
theorem ok39 (ho : H[j]? = some (drO l a)) (ha : a ≤ l.length) (hl : l.length < 4611686018427387904) {x : SV} {ws : List (List UInt8)} (hx : ∀ b, IsS (mvD H j l b) x ws) (h1 : 1 ≤ ws.length) (h2 : ws.length ≤ 9) :
 Ok Tryz.prog 39 [rp j, x] H (.ret (st (B (ws.getD (nx l a ws.length).1 [])))) (mvD H j l (nx l a ws.length).2) := by
 have e4 := mvD_self ho
 have hx0 := hx a
 rw [e4] at hx0
 refine ok_fn hm Tryz.func39 c39 (by simp [rp, hx0.cell]) fun hcl => ?_
 have h37 := ok37m ho ha hl ws.length (by omega)
 have hk := nx_lt (l := l) (a := a) (n := ws.length) h1
 have hx1 := hx (nx l a ws.length).2
 generalize nx l a ws.length = kk at *
 obtain ⟨k, b⟩ := kk
 simp only at *
 have hv := hx1.vA [] hk
 have hok := hx1.okA [] hk
 rw [List.append_nil] at hv hok
 have hg : ws.getD k [] = ws[k] := by rw [List.getD_eq_getElem?_getD, List.getElem?_eq_getElem hk]; rfl
 have hk' : (k : Int) < ws.length := by omega
 rw [hg]
 simp -implicitDefEqProofs [i39, r39, hx0.vd, hx0.ug, hx0.sl, hx0.len]
 refine call_go h37 ?_
 simp -implicitDefEqProofs [hx1.vd, hx1.ug, hx1.sl, hx1.cell, hx1.len, hk, hk', hv, hok]
 exact cv_id
theorem go39 (hd : Dr H j l) (ha : a ≤ l.length) (hl : l.length < 4611686018427387904) (L : List AO) {x : SV} {ws : List (List UInt8)} (hx : ∀ b, IsS (mvD H j l b ++ L) x ws) (h1 : 1 ≤ ws.length) (h2 : ws.length ≤ 9) :
 Ok Tryz.prog 39 [rp j, x] (mvD H j l a ++ L) (.ret (st (B (ws.getD (nx l a ws.length).1 [])))) (mvD H j l (nx l a ws.length).2 ++ L) := by
 have := ok39 (hd.at a L) ha hl (x := x) (ws := ws) (fun b => by rw [hd.mv]; exact hx b) h1 h2; rwa [hd.mv] at this
theorem row1 {L : List AO} {k n ver : Nat} {ws : List (List UInt8)} (h : L[k]? = some ⟨wds ws, 9, ver, true⟩) (hn : n = ws.length) (b : Nat) : IsS (mvD H j l b ++ L) (.own (H.length + k) 0 n 1 ver) ws := by
 have := IsS.own1 (H := mvD H j l b) (L := L) h hn
 rwa [List.length_set] at this
theorem ok40 (hd : Dr H j l) (ha : a ≤ l.length) (hl : l.length < 4611686018427387904) {v pl : Nat} (hv : 1 ≤ v) (h3 : v ≤ 3) (hp : 1 ≤ pl) (hp3 : pl ≤ 3) :
 Ok Tryz.prog 40 [rp j, i64 pl, i64 v] (mvD H j l a) (.ret (st (B (stB (dealC l pl v a).1)))) (mvD H j l (dealC l pl v a).2) := by
 refine ok_fn hm Tryz.func40 c40 (by simp [rp, hd.lt]) fun hcl => ?_
 dsimp only [dealC, seeC, stB, dealB]
 have a1 := nx_le (n := v) ha
 have g1 := go71 hd ha hl [] hv h3
 have h2 := fun L k (h : L[k]? = some ⟨wds rngW, 9, 0, true⟩) => go39 hd a1 hl L (x := .own (H.length + k) 0 4 1 0) (ws := rngW) (fun b => row1 h rfl b) (by decide) (by decide)
 have a2 := nx_le (n := 4) a1
 have g3 := fun L => go37 hd a2 hl L 4 (by decide)
 have b3 := nx_lt (l := l) (a := (nx l (nx l a v).2 4).2) (n := 4) (by decide)
 have a3 := nx_le (n := 4) a2
 have g4 := fun L => go37 hd a3 hl L 3 (by decide)
 have b4 := nx_lt (l := l) (a := (nx l (nx l (nx l a v).2 4).2 4).2) (n := 3) (by decide)
 have a4 := nx_le (n := 3) a3
 have g5 := fun L => go37 hd a4 hl L pl (by omega)
 have b5 := nx_lt (l := l) (a := (nx l (nx l (nx l (nx l a v).2 4).2 4).2 3).2) hp
 have lr : ∀ k, (rngW.getD k []).length ≤ 6 := by
  intro k
  match k with
  | 0 | 1 | 2 | 3 => decide
  | k + 4 => simp [rngW]
 simp only [show rngW.length = 4 from rfl] at h2
 generalize nx l (nx l (nx l (nx l (nx l a v).2 4).2 4).2 3).2 pl = q5 at *
 generalize nx l (nx l (nx l (nx l a v).2 4).2 4).2 3 = q4 at *
 generalize nx l (nx l (nx l a v).2 4).2 4 = q3 at *
 generalize nx l (nx l a v).2 4 = q2 at *
 generalize nx l a v = q1 at *
 obtain ⟨x1, c1⟩ := q1
 obtain ⟨x2, c2⟩ := q2
 obtain ⟨x3, c3⟩ := q3
 obtain ⟨x4, c4⟩ := q4
 obtain ⟨x5, c5⟩ := q5
 simp only at *
 have lx : (vN x1).length = 2 := rfl
 have lr := lr x2
 generalize rngW.getD x2 [] = tr at *
 simp -implicitDefEqProofs [i40, r40]
 refine call_go (by rw [List.append_nil, List.append_nil] at g1; exact g1) ?_
 simp -implicitDefEqProofs [B_cat, B_size, lx]
 refine call_go (h2 _ 0 rfl) ?_
 simp -implicitDefEqProofs [B_cat, B_size, lx]
 refine ⟨by omega, ?_⟩
 refine call_go (g3 _) ?_
 have hk4 : x3 = 0 ∨ x3 = 1 ∨ x3 = 2 ∨ x3 = 3 := by omega
 have hk3 : x4 = 0 ∨ x4 = 1 ∨ x4 = 2 := by omega
 have hc : ∀ b, closed (mvD H j l b) := fun b => by have := mvD_cl (j := j) (l := l) hcl b; unfold mvD at this; rwa [List.set_set] at this
 have ld : ∀ k, (dg k).length = 1 := fun _ => rfl
 have g6 := fun H => ok38 (H := H) (n := x5) (by omega)
 have ld := ld x5
 generalize hd5 : dg x5 = t5 at *
 rcases hk4 with rfl | rfl | rfl | rfl
 all_goals
  simp -implicitDefEqProofs [B_cat, B_size, lx]
  repeat (refine ⟨by omega, ?_⟩)
  refine call_go (g4 _) ?_
  rcases hk3 with rfl | rfl | rfl
  · simp -implicitDefEqProofs [B_cat, B_size, lx, wgB, seeB]
    repeat (refine ⟨by omega, ?_⟩)
    exact cv_fz 1 (hc _) (List.length_set ..).symm rfl
  · simp -implicitDefEqProofs [B_cat, B_size, lx]
    repeat (refine ⟨by omega, ?_⟩)
    refine call_go (g5 _) ?_
    simp -implicitDefEqProofs
    refine call_go (g6 _) ?_
    simp -implicitDefEqProofs [B_cat, B_size, lx, wgB, seeB, ld, hd5]
    repeat (refine ⟨by omega, ?_⟩)
    exact cv_fz 1 (hc _) (List.length_set ..).symm rfl
  · simp -implicitDefEqProofs [B_cat, B_size, lx, wgB, seeB]
    repeat (refine ⟨by omega, ?_⟩)
    exact cv_fz 1 (hc _) (List.length_set ..).symm rfl
end
end Go.Proofs.YthmdmnfojbnobaaGreatDoor
namespace Go.Proofs.YthmdmnfojbnobaaGreatDoor
open Go.Ab
section
variable {H : List AO} {j : Nat} {l : List Int}
structure E41 (j v i n k w : Nat) (env : Env) : Prop where
 h0 : env.get 0 = rp j
 h2 : env.get 2 = i64 v
 h3 : env.get 3 = i64 i
 h4 : env.get 4 = i64 n
 h12 : env.get 12 = i64 w
 h13 : env.get 13 = i64 k
theorem loop41_1 (hd : Dr H j l) (hl : l.length < 4611686018427387904) {v i n k w : Nat} (hv : 1 ≤ v) (h3 : v ≤ 3) {G : List AO} {N : Nat} {K : XE -> Env -> List AO -> Prop} :
 ∀ (m a : Nat) (P : List UInt8) (env : Env), a ≤ l.length -> m ≤ 9 -> P.length + 60 * m ≤ 1000000000 -> E41 j v i n k w env -> env.get 11 = st (B P) -> env.get 14 = i64 m →
  (∀ env, E41 j v i n k w env -> env.get 11 = st (B (P ++ setsB (setsC l v m a).1)) -> K (.exit 2) env (mvD H j l (setsC l v m a).2 ++ G)) -> LI Tryz.prog N drawB l41_1 env (mvD H j l a ++ G) K := by
 intro m
 induction m with
 | zero =>
  intro a P env ha hm9 hP he h11 h14 hk
  refine li_go hm l41_1.eq_1 ?_
  simp -implicitDefEqProofs [h14]
  refine hk _ ⟨?_, ?_, ?_, ?_, ?_, ?_⟩ ?_
  all_goals simp [he.h0, he.h2, he.h3, he.h4, he.h12, he.h13, h11, setsB, setsC]
 | succ m ih =>
  intro a P env ha hm9 hP he h11 h14 hk
  refine li_go hm l41_1.eq_1 ?_
  have hsl := setB_len ((nx l a v).1, (gx l v 8 (nx l a v).2).1)
  have g1 := go71 hd ha hl G hv h3
  have a1 := nx_le (n := v) ha
  have g2 := go42 hd a1 hl G hv h3
  have a2 := gx_le (v := v) (n := 8) a1
  have hih := ih (gx l v 8 (nx l a v).2).2 (P ++ setB ((nx l a v).1, (gx l v 8 (nx l a v).2).1))
  have hk' : ∀ env, E41 j v i n k w env -> env.get 11 = st (B (P ++ setB ((nx l a v).1, (gx l v 8 (nx l a v).2).1) ++ setsB (setsC l v m (gx l v 8 (nx l a v).2).2).1)) -> K (.exit 2) env (mvD H j l (setsC l v m (gx l v 8 (nx l a v).2).2).2 ++ G) := by
   intro env e1 e2
   refine hk env e1 ?_
   rw [e2, List.append_assoc]; rfl
  clear hk ih
  generalize setsC l v m (gx l v 8 (nx l a v).2).2 = r at hk' hih
  generalize gx l v 8 (nx l a v).2 = q2 at *
  generalize nx l a v = q1 at *
  obtain ⟨x1, c1⟩ := q1
  obtain ⟨x2, c2⟩ := q2
  simp only at *
  have hb : setB (x1, x2) = [32] ++ vN x1 ++ [32, 61, 32] ++ exB x2 ++ [59] := rfl
  rw [hb] at hsl hih hk'
  have lx : (vN x1).length = 2 := rfl
  generalize vN x1 = t1 at *
  generalize exB x2 = t2 at *
  simp only [List.length_append, List.length_cons, List.length_nil] at hsl
  have w1 : IntKind.i64.wrap (m : Int) = m := wrap_nat (by omega)
  simp -implicitDefEqProofs [he.h0, he.h2, h11, h14, B_cat, B_size]
  repeat (refine ⟨by omega, ?_⟩)
  refine call_go g1 ?_
  simp -implicitDefEqProofs [he.h0, he.h2, h11, h14, B_cat, B_size]
  repeat (refine ⟨by omega, ?_⟩)
  refine call_go g2 ?_
  simp -implicitDefEqProofs [he.h0, he.h2, h11, h14, B_cat, B_size]
  repeat (refine ⟨by omega, ?_⟩)
  refine hih _ a2 (by omega) (by simp only [List.length_append, List.length_cons, List.length_nil]; omega) ⟨?_, ?_, ?_, ?_, ?_, ?_⟩ ?_ ?_ hk'
  all_goals simp [he.h0, he.h2, he.h3, he.h4, he.h12, he.h13, h11, w1]
theorem actB_len (k : Nat) (g : GA) (h : g.sets.length ≤ 2) : (actB k g).length ≤ 400 := by
 have h1 := whB_len g.wh
 have h2 := hidB_len g.hid
 have h3 := setsB_len g.sets
 have h4 := goB_len g.go
 simp [actB, aN]; omega
end
def t41 : IC := (.seq
 (.seq
 (.reg [
 ⟨(some 66), none, .p (.mov (.t 0))⟩,
 ⟨(some 67), none, .e (.call (.c (.fn (.func 37) [] [])) [(.t 66), (.c (i64 3))])⟩,
 ⟨(some 68), none, .p (.bin .eql (.i .i64) (.t 67) (.c (i64 0)))⟩])
 (.cond (.t 68)
 (.reg [
 ⟨(some 69), none, .p (.mov (.t 11))⟩,
 ⟨(some 70), none, .p (.bin .add .s (.t 69) (.c (st ⟨#[32, 104, 105, 100, 100, 101, 110]⟩)))⟩,
 ⟨(some 11), none, .p (.mov (.t 70))⟩])
 .skip))
 (.seq
 (.reg [
 ⟨(some 71), none, .p (.mov (.t 11))⟩,
 ⟨(some 72), none, .p (.bin .add .s (.t 71) (.c (st ⟨#[32, 123]⟩)))⟩,
 ⟨(some 11), none, .p (.mov (.t 72))⟩])
 (.seq
 (.seq
 (.reg [
 ⟨(some 73), none, .p (.mov (.t 0))⟩,
 ⟨(some 74), none, .e (.call (.c (.fn (.func 37) [] [])) [(.t 73), (.c (i64 3))])⟩,
 ⟨(some 14), none, .p (.mov (.t 74))⟩])
 (.blk 2
 (.loop l41_1)))
 (.seq
 (.reg [
 ⟨(some 91), none, .p (.mov (.t 11))⟩,
 ⟨(some 92), none, .p (.bin .add .s (.t 91) (.c (st ⟨#[32, 125]⟩)))⟩,
 ⟨(some 11), none, .p (.mov (.t 92))⟩])
 (.seq
 (.seq
 (.reg [
 ⟨(some 93), none, .p (.mov (.t 0))⟩,
 ⟨(some 94), none, .e (.call (.c (.fn (.func 37) [] [])) [(.t 93), (.c (i64 3))])⟩,
 ⟨(some 95), none, .p (.bin .eql (.i .i64) (.t 94) (.c (i64 0)))⟩])
 (.cond (.t 95)
 (.reg [
 ⟨(some 96), none, .p (.mov (.t 11))⟩,
 ⟨(some 97), none, .p (.bin .add .s (.t 96) (.c (st ⟨#[32, 103, 111, 116, 111, 32, 115]⟩)))⟩,
 ⟨(some 98), none, .p (.mov (.t 3))⟩,
 ⟨(some 99), none, .p (.bin .add (.i .i64) (.t 98) (.c (i64 1)))⟩,
 ⟨(some 100), none, .p (.mov (.t 0))⟩,
 ⟨(some 101), none, .p (.mov (.t 4))⟩,
 ⟨(some 102), none, .p (.mov (.t 3))⟩,
 ⟨(some 103), none, .p (.bin .sub (.i .i64) (.t 101) (.t 102))⟩,
 ⟨(some 104), none, .e (.call (.c (.fn (.func 37) [] [])) [(.t 100), (.t 103)])⟩,
 ⟨(some 105), none, .p (.bin .add (.i .i64) (.t 99) (.t 104))⟩,
 ⟨(some 106), none, .e (.call (.c (.fn (.func 38) [] [])) [(.t 105)])⟩,
 ⟨(some 107), none, .p (.bin .add .s (.t 97) (.t 106))⟩,
 ⟨(some 108), none, .p (.bin .add .s (.t 107) (.c (st ⟨#[59]⟩)))⟩,
 ⟨(some 11), none, .p (.mov (.t 108))⟩])
 .skip))
 (.reg [
 ⟨(some 109), none, .p (.mov (.t 11))⟩,
 ⟨(some 110), none, .p (.bin .add .s (.t 109) (.c (st ⟨#[10]⟩)))⟩,
 ⟨(some 11), none, .p (.mov (.t 110))⟩]))))))
theorem t41_at : l41_0 = .keep [0, 2, 3, 4, 11, 12, 13]
 (.seq
 (.seq
 (.reg [
 ⟨(some 41), none, .p (.mov (.t 13))⟩,
 ⟨(some 42), none, .p (.mov (.t 12))⟩,
 ⟨(some 43), none, .p (.bin .lss (.i .i64) (.t 41) (.t 42))⟩])
 (.cond (.t 43)
 .skip
 (.exit 0)))
 (.seq
 (.blk 1
 (.seq
 (.reg [
 ⟨(some 46), none, .p (.mov (.t 11))⟩,
 ⟨(some 47), none, .p (.bin .add .s (.t 46) (.c (st ⟨#[32, 32, 97, 99, 116, 105, 111, 110, 32]⟩)))⟩,
 ⟨(some 48), none, .e (.bsl 9 1 3 [st ⟨#[]⟩] [(0, (.c (st ⟨#[97]⟩))), (1, (.c (st ⟨#[98]⟩))), (2, (.c (st ⟨#[99]⟩)))])⟩,
 ⟨(some 49), none, .p (.mov (.t 13))⟩,
 ⟨(some 50), none, .p (.ia 1 (.t 48) (.t 49))⟩,
 ⟨(some 51), none, .p (.ld1 (.t 50))⟩,
 ⟨(some 52), none, .p (.bin .add .s (.t 47) (.t 51))⟩,
 ⟨(some 11), none, .p (.mov (.t 52))⟩])
 (.seq
 (.seq
 (.reg [
 ⟨(some 53), none, .p (.mov (.t 13))⟩,
 ⟨(some 54), none, .p (.bin .gtr (.i .i64) (.t 53) (.c (i64 0)))⟩,
 ⟨(some 55), none, .p (.mov (.t 54))⟩,
 ⟨(some 56), (some (55, true)), .p (.mov (.t 0))⟩,
 ⟨(some 57), (some (55, true)), .e (.call (.c (.fn (.func 37) [] [])) [(.t 56), (.c (i64 3))])⟩,
 ⟨(some 58), (some (55, true)), .p (.bin .eql (.i .i64) (.t 57) (.c (i64 0)))⟩,
 ⟨(some 59), none, .p (.pick (.t 55) (.t 58) (.c (bl false)))⟩])
 (.cond (.t 59)
 (.reg [
 ⟨(some 60), none, .p (.mov (.t 11))⟩,
 ⟨(some 61), none, .p (.bin .add .s (.t 60) (.c (st ⟨#[32, 119, 104, 101, 110, 32]⟩)))⟩,
 ⟨(some 62), none, .p (.mov (.t 0))⟩,
 ⟨(some 63), none, .p (.mov (.t 2))⟩,
 ⟨(some 64), none, .e (.call (.c (.fn (.func 72) [] [])) [(.t 62), (.t 63)])⟩,
 ⟨(some 65), none, .p (.bin .add .s (.t 61) (.t 64))⟩,
 ⟨(some 11), none, .p (.mov (.t 65))⟩])
 .skip))
 t41)))
 (.reg [
 ⟨(some 44), none, .p (.mov (.t 13))⟩,
 ⟨(some 45), none, .p (.bin .add (.i .i64) (.t 44) (.c (i64 1)))⟩,
 ⟨(some 13), none, .p (.mov (.t 45))⟩]))) := rfl
section
variable {H : List AO} {j : Nat} {l : List Int}
theorem tail41 (hd : Dr H j l) (hl : l.length < 4611686018427387904) {v i n k w : Nat} (hv : 1 ≤ v) (h3 : v ≤ 3) (hi : i < n) (hn : n ≤ 4) {N : Nat} {K : XE -> Env -> List AO -> Prop} {G : List AO} {a : Nat} {P : List UInt8} {env : Env}
 (ha : a ≤ l.length) (hP : P.length ≤ 100000000) (he : E41 j v i n k w env) (h11 : env.get 11 = st (B P))
 (hk : ∀ env, E41 j v i n k w env -> env.get 11 = st (B (P ++ hidB (decide ((nx l a 3).1 = 0)) ++ [32, 123] ++ setsB (setsC l v (nx l (nx l a 3).2 3).1 (nx l (nx l a 3).2 3).2).1 ++ [32, 125] ++ goB (goC l i n (setsC l v (nx l (nx l a 3).2 3).1 (nx l (nx l a 3).2 3).2).2).1 ++ [10])) →
  K .normal env (mvD H j l (goC l i n (setsC l v (nx l (nx l a 3).2 3).1 (nx l (nx l a 3).2 3).2).2).2 ++ G)) : X Tryz.prog N drawB t41 env (mvD H j l a ++ G) K := by
 have g1 := go37 hd ha hl G 3 (by decide)
 have a1 := nx_le (n := 3) ha
 have g2 := go37 hd a1 hl G 3 (by decide)
 have a2 := nx_le (n := 3) a1
 have b2 := nx_lt (l := l) (a := (nx l a 3).2) (n := 3) (by decide)
 generalize nx l (nx l a 3).2 3 = q2 at *
 generalize nx l a 3 = q1 at *
 obtain ⟨x1, c1⟩ := q1
 obtain ⟨x2, c2⟩ := q2
 simp only at *
 have a3 := setsC_le (v := v) (m := x2) a2
 have s3 := setsB_len (setsC l v x2 c2).1
 rw [setsC_len] at s3
 have g4 := go37 hd a3 hl G 3 (by decide)
 have a4 := nx_le (n := 3) a3
 have g5 := go37 hd a4 hl G (n - i) (by omega)
 have b5 := nx_lt (l := l) (a := (nx l (setsC l v x2 c2).2 3).2) (n := n - i) (by omega)
 have lp := fun (P : List UInt8) (env : Env) (K : XE -> Env -> List AO -> Prop) => loop41_1 hd hl (i := i) (n := n) (k := k) (w := w) hv h3 (G := G) (N := N) (K := K) x2 c2 P env a2
 unfold goC at hk
 generalize setsC l v x2 c2 = r at *
 obtain ⟨tx, c3⟩ := r
 simp only at *
 generalize setsB tx = sx at *
 generalize nx l (nx l c3 3).2 (n - i) = q5 at *
 generalize nx l c3 3 = q4 at *
 obtain ⟨x4, c4⟩ := q4
 obtain ⟨x5, c5⟩ := q5
 simp only at *
 have e5 : IntKind.i64.wrap ((n : Int) - i) = ((n - i : Nat) : Int) := by rw [wrap_id (by omega) (by omega)]; omega
 have e6 : IntKind.i64.wrap (IntKind.i64.wrap ((i : Int) + 1) + (x5 : Int)) = ((i + 1 + x5 : Nat) : Int) := by rw [wrap_id (n := (i : Int) + 1) (by omega) (by omega), wrap_id (by omega) (by omega)]; omega
 have g6 := fun H => ok38 (H := H) (n := i + 1 + x5) (by omega)
 have ld : (dg (i + 1 + x5)).length = 1 := rfl
 unfold t41
 simp -implicitDefEqProofs [he.h0, he.h2, he.h3, he.h4, he.h12, he.h13, h11, B_cat, B_size]
 refine call_go g1 ?_
 rcases (by omega : x1 = 0 ∨ ¬ x1 = 0) with h1 | h1
 all_goals
  have hh : hidB (decide (x1 = 0)) = if x1 = 0 then [32, 104, 105, 100, 100, 101, 110] else [] := by unfold hidB; simp only [decide_eq_true_eq]
  rw [hh] at hk
  simp -implicitDefEqProofs [he.h0, he.h2, he.h3, he.h4, he.h12, he.h13, h11, B_cat, B_size, h1]
  repeat (refine ⟨by omega, ?_⟩)
  refine call_go g2 ?_
  simp -implicitDefEqProofs [he.h0, he.h2, he.h3, he.h4, he.h12, he.h13, h11, B_cat, B_size]
  refine lp (P ++ (if x1 = 0 then [32, 104, 105, 100, 100, 101, 110] else []) ++ [32, 123]) _ _ (by omega) (by simp [h1]; omega) ⟨?_, ?_, ?_, ?_, ?_, ?_⟩ ?_ ?_ ?_
  · simp [he.h0]
  · simp [he.h2]
  · simp [he.h3]
  · simp [he.h4]
  · simp [he.h12]
  · simp [he.h13]
  · simp [h1]
  · simp
  clear lp
  intro env he2 h112
  simp -implicitDefEqProofs [he2.h0, he2.h2, he2.h3, he2.h4, he2.h12, he2.h13, h112, B_cat, B_size, h1]
  repeat (refine ⟨by omega, ?_⟩)
  refine call_go g4 ?_
  rcases (by omega : x4 = 0 ∨ ¬ x4 = 0) with h4 | h4
  · simp -implicitDefEqProofs [he2.h0, he2.h2, he2.h3, he2.h4, he2.h12, he2.h13, h112, B_cat, B_size, h4, e5]
    repeat (refine ⟨by omega, ?_⟩)
    refine call_go g5 ?_
    simp -implicitDefEqProofs [he2.h0, he2.h2, he2.h3, he2.h4, he2.h12, he2.h13, h112, B_cat, B_size, h4, e6]
    refine call_go (g6 _) ?_
    rw [if_pos h4] at hk
    simp only [goB] at hk
    generalize dg (i + 1 + x5) = t5 at *
    simp -implicitDefEqProofs [he2.h0, he2.h2, he2.h3, he2.h4, he2.h12, he2.h13, h112, B_cat, B_size]
    repeat (refine ⟨by omega, ?_⟩)
    refine hk _ ⟨?_, ?_, ?_, ?_, ?_, ?_⟩ ?_
    all_goals simp [he2.h0, he2.h2, he2.h3, he2.h4, he2.h12, he2.h13, h1]
  · rw [if_neg h4] at hk
    simp only [goB] at hk
    simp -implicitDefEqProofs [he2.h0, he2.h2, he2.h3, he2.h4, he2.h12, he2.h13, h112, B_cat, B_size, h4]
    repeat (refine ⟨by omega, ?_⟩)
    refine hk _ ⟨?_, ?_, ?_, ?_, ?_, ?_⟩ ?_
    all_goals simp [he2.h0, he2.h2, he2.h3, he2.h4, he2.h12, he2.h13, h1]
end
end Go.Proofs.YthmdmnfojbnobaaGreatDoor
namespace Go.Proofs.YthmdmnfojbnobaaGreatDoor
open Go.Ab
section
variable {H : List AO} {j : Nat} {l : List Int}
theorem loop41_0 (hd : Dr H j l) (hl : l.length < 4611686018427387904) {v i n w : Nat} (hv : 1 ≤ v) (h3 : v ≤ 3) (hi : i < n) (hn : n ≤ 4) (hw : w ≤ 3) {N : Nat} {K : XE -> Env -> List AO -> Prop} :
 ∀ (m k a : Nat) (P : List UInt8) (G : List AO) (env : Env), a ≤ l.length -> k + m = w -> P.length + 400 * m ≤ 1000000 -> E41 j v i n k w env -> env.get 11 = st (B P) →
  (∀ env G, env.get 11 = st (B (P ++ actsB k (actsC l v i n m k a).1)) -> K (.exit 0) env (mvD H j l (actsC l v i n m k a).2 ++ G)) -> LI Tryz.prog N drawB l41_0 env (mvD H j l a ++ G) K := by
 intro m
 induction m with
 | zero =>
  intro k a P G env ha hm' hP he h11 hk
  refine li_go hm t41_at ?_
  have : k = w := by omega
  subst this
  simp -implicitDefEqProofs [he.h12, he.h13]
  refine hk _ _ ?_
  simp [h11, actsB, actsC]
 | succ m ih =>
  intro k a P G env ha hm9 hP he h11 hk
  refine li_go hm t41_at ?_
  have hkw : (k : Int) < w := by omega
  have hkw' : k < w := by omega
  have hal := actB_len k (actC l v i n k a).1 (by
   have := nx_lt (l := l) (a := (nx l (whC l v k a).2 3).2) (n := 3) (by decide)
   dsimp only [actC]
   rw [setsC_len]; omega)
  have hk2 : ∀ env G, env.get 11 = st (B (P ++ actB k (actC l v i n k a).1 ++ actsB (k + 1) (actsC l v i n m (k + 1) (actC l v i n k a).2).1)) -> K (.exit 0) env (mvD H j l (actsC l v i n m (k + 1) (actC l v i n k a).2).2 ++ G) := by
   intro env G e2
   refine hk env G ?_
   rw [e2, List.append_assoc]; rfl
  clear hk
  have ht := fun (c : Nat) (hc : c ≤ l.length) (G : List AO) (P : List UInt8) (env : Env) (K : XE -> Env -> List AO -> Prop) => tail41 hd hl (i := i) (n := n) (k := k) (w := w) hv h3 hi hn (G := G) (N := N) (K := K) (a := c) (P := P) (env := env) hc
  -- what is done behind the condition
  have key : ∀ (wh : Option GX) (c : Nat), whC l v k a = (wh, c) -> c ≤ l.length -> ∀ (env : Env) (G : List AO), E41 j v i n k w env -> env.get 11 = st (B (P ++ [32, 32, 97, 99, 116, 105, 111, 110, 32] ++ aN k ++ whB wh)) -> ∀ K' : XE -> Env -> List AO -> Prop,
   (∀ env, E41 j v i n k w env -> env.get 11 = st (B (P ++ actB k (actC l v i n k a).1)) -> K' .normal env (mvD H j l (actC l v i n k a).2 ++ G)) -> X Tryz.prog N drawB t41 env (mvD H j l c ++ G) K' := by
   intro wh c hw1 hc env G he h11 K' hk'
   refine ht c hc G _ env K' ?_ he h11 fun env he2 h112 => ?_
   · have := whB_len wh
     simp [aN]; omega
   · have e : (actC l v i n k a).2 = (goC l i n (setsC l v (nx l (nx l c 3).2 3).1 (nx l (nx l c 3).2 3).2).2).2 := by dsimp only [actC]; rw [hw1]
     rw [← e]
     refine hk' env he2 ?_
     rw [h112]
     dsimp only [actC, actB]
     rw [hw1]
     simp
  have fin : ∀ (env : Env), E41 j v i n k w env -> env.get 11 = st (B (P ++ actB k (actC l v i n k a).1)) -> ∀ G, ∀ env2 : Env, E41 j v i n (k + 1) w env2 -> env2.get 11 = env.get 11 -> LI Tryz.prog N drawB l41_0 env2 (mvD H j l (actC l v i n k a).2 ++ G) K := fun env e1 e2 G env2 e3 e4 =>
   ih (k + 1) _ _ G env2 (actC_le ha) (by omega) (by simp; omega) e3 (by rw [e4, e2]) hk2
  clear ih hk2 ht
  have hk3 : k = 0 ∨ k = 1 ∨ k = 2 := by omega
  rcases hk3 with rfl | rfl | rfl
  · simp -implicitDefEqProofs [he.h0, he.h2, he.h3, he.h4, he.h12, he.h13, h11, hkw, hkw', B_cat, B_size]
    repeat (refine ⟨by omega, ?_⟩)
    refine key none a rfl ha _ _ ⟨?_, ?_, ?_, ?_, ?_, ?_⟩ ?_ _ fun env e1 e2 => ?_
    · simp [he.h0]
    · simp [he.h2]
    · simp [he.h3]
    · simp [he.h4]
    · simp [he.h12]
    · simp [he.h13]
    · simp [whB, aN]
    · refine ⟨by rw [e1.h13]; rfl, fin env e1 e2 _ _ ⟨?_, ?_, ?_, ?_, ?_, ?_⟩ ?_⟩
      all_goals simp [e1.h0, e1.h2, e1.h3, e1.h4, e1.h12, e1.h13, show IntKind.i64.wrap 1 = 1 from rfl]
  · have hc1 : (1 : Int) < w := by omega
    have g1 := fun G => go37 hd ha hl G 3 (by decide)
    have a1 := nx_le (n := 3) ha
    have g2 := fun G => go72 hd a1 hl G hv h3
    have a2 := gx_le (v := v) (n := 4) a1
    have cl := cdB_len (gx l v 4 (nx l a 3).2).1
    unfold whC at key
    simp only [show ¬ (1 : Nat) = 0 from by decide, if_false] at key
    generalize gx l v 4 (nx l a 3).2 = q2 at *
    generalize nx l a 3 = q1 at *
    obtain ⟨x1, c1⟩ := q1
    obtain ⟨x2, c2⟩ := q2
    simp only at *
    simp -implicitDefEqProofs [he.h0, he.h2, he.h3, he.h4, he.h12, he.h13, h11, hkw, hkw', hc1, B_cat, B_size]
    repeat (refine ⟨by omega, ?_⟩)
    refine call_st (g1 _) ?_
    rcases (by omega : x1 = 0 ∨ ¬ x1 = 0) with h1 | h1
    · rw [if_pos h1] at key
      simp -implicitDefEqProofs [he.h0, he.h2, he.h3, he.h4, he.h12, he.h13, h11, B_cat, B_size, h1]
      repeat (refine ⟨by omega, ?_⟩)
      refine call_go (g2 _) ?_
      simp -implicitDefEqProofs [he.h0, he.h2, he.h3, he.h4, he.h12, he.h13, h11, B_cat, B_size, h1]
      repeat (refine ⟨by omega, ?_⟩)
      refine key (some x2) c2 rfl a2 _ _ ⟨?_, ?_, ?_, ?_, ?_, ?_⟩ ?_ _ fun env e1 e2 => ?_
      · simp [he.h0]
      · simp [he.h2]
      · simp [he.h3]
      · simp [he.h4]
      · simp [he.h12]
      · simp [he.h13]
      · simp [whB, aN]
      · refine ⟨by rw [e1.h13]; rfl, fin env e1 e2 _ _ ⟨?_, ?_, ?_, ?_, ?_, ?_⟩ ?_⟩
        all_goals simp [e1.h0, e1.h2, e1.h3, e1.h4, e1.h12, e1.h13, show IntKind.i64.wrap 2 = 2 from rfl]
    · rw [if_neg h1] at key
      simp -implicitDefEqProofs [he.h0, he.h2, he.h3, he.h4, he.h12, he.h13, h11, B_cat, B_size, h1]
      refine key none c1 rfl a1 _ _ ⟨?_, ?_, ?_, ?_, ?_, ?_⟩ ?_ _ fun env e1 e2 => ?_
      · simp [he.h0]
      · simp [he.h2]
      · simp [he.h3]
      · simp [he.h4]
      · simp [he.h12]
      · simp [he.h13]
      · simp [whB, aN]
      · refine ⟨by rw [e1.h13]; rfl, fin env e1 e2 _ _ ⟨?_, ?_, ?_, ?_, ?_, ?_⟩ ?_⟩
        all_goals simp [e1.h0, e1.h2, e1.h3, e1.h4, e1.h12, e1.h13, show IntKind.i64.wrap 2 = 2 from rfl]
  · have hc1 : (2 : Int) < w := by omega
    have g1 := fun G => go37 hd ha hl G 3 (by decide)
    have a1 := nx_le (n := 3) ha
    have g2 := fun G => go72 hd a1 hl G hv h3
    have a2 := gx_le (v := v) (n := 4) a1
    have cl := cdB_len (gx l v 4 (nx l a 3).2).1
    unfold whC at key
    simp only [show ¬ (2 : Nat) = 0 from by decide, if_false] at key
    generalize gx l v 4 (nx l a 3).2 = q2 at *
    generalize nx l a 3 = q1 at *
    obtain ⟨x1, c1⟩ := q1
    obtain ⟨x2, c2⟩ := q2
    simp only at *
    simp -implicitDefEqProofs [he.h0, he.h2, he.h3, he.h4, he.h12, he.h13, h11, hkw, hkw', hc1, B_cat, B_size]
    repeat (refine ⟨by omega, ?_⟩)
    refine call_st (g1 _) ?_
    rcases (by omega : x1 = 0 ∨ ¬ x1 = 0) with h1 | h1
    · rw [if_pos h1] at key
      simp -implicitDefEqProofs [he.h0, he.h2, he.h3, he.h4, he.h12, he.h13, h11, B_cat, B_size, h1]
      repeat (refine ⟨by omega, ?_⟩)
      refine call_go (g2 _) ?_
      simp -implicitDefEqProofs [he.h0, he.h2, he.h3, he.h4, he.h12, he.h13, h11, B_cat, B_size, h1]
      repeat (refine ⟨by omega, ?_⟩)
      refine key (some x2) c2 rfl a2 _ _ ⟨?_, ?_, ?_, ?_, ?_, ?_⟩ ?_ _ fun env e1 e2 => ?_
      · simp [he.h0]
      · simp [he.h2]
      · simp [he.h3]
      · simp [he.h4]
      · simp [he.h12]
      · simp [he.h13]
      · simp [whB, aN]
      · refine ⟨by rw [e1.h13]; rfl, fin env e1 e2 _ _ ⟨?_, ?_, ?_, ?_, ?_, ?_⟩ ?_⟩
        all_goals simp [e1.h0, e1.h2, e1.h3, e1.h4, e1.h12, e1.h13, show IntKind.i64.wrap 3 = 3 from rfl]
    · rw [if_neg h1] at key
      simp -implicitDefEqProofs [he.h0, he.h2, he.h3, he.h4, he.h12, he.h13, h11, B_cat, B_size, h1]
      refine key none c1 rfl a1 _ _ ⟨?_, ?_, ?_, ?_, ?_, ?_⟩ ?_ _ fun env e1 e2 => ?_
      · simp [he.h0]
      · simp [he.h2]
      · simp [he.h3]
      · simp [he.h4]
      · simp [he.h12]
      · simp [he.h13]
      · simp [whB, aN]
      · refine ⟨by rw [e1.h13]; rfl, fin env e1 e2 _ _ ⟨?_, ?_, ?_, ?_, ?_, ?_⟩ ?_⟩
        all_goals simp [e1.h0, e1.h2, e1.h3, e1.h4, e1.h12, e1.h13, show IntKind.i64.wrap 3 = 3 from rfl]
theorem actsB_len : ∀ (gs : List GA) (k : Nat), (∀ g ∈ gs, g.sets.length ≤ 2) -> (actsB k gs).length ≤ 400 * gs.length
 | [], k, _ => by simp [actsB]
 | g :: r, k, h => by
  have h1 := actB_len k g (h g (by simp))
  have h2 := actsB_len r (k + 1) fun x hx => h x (by simp [hx])
  simp [actsB]; omega
theorem actsC_sets {v i n : Nat} : ∀ (m k a : Nat), ∀ g ∈ (actsC l v i n m k a).1, g.sets.length ≤ 2
 | 0, _, _, g, h => by cases h
 | m + 1, k, a, g, h => by
  rw [actsC, List.mem_cons] at h
  rcases h with rfl | h
  · have := nx_lt (l := l) (a := (nx l (whC l v k a).2 3).2) (n := 3) (by decide)
    dsimp only [actC]
    rw [setsC_len]; omega
  · exact actsC_sets m _ _ g h
theorem ok41 (hd : Dr H j l) {a : Nat} (ha : a ≤ l.length) (hl : l.length < 4611686018427387904) {v pl i n : Nat} (hv : 1 ≤ v) (h3 : v ≤ 3) (hp : 1 ≤ pl) (hp3 : pl ≤ 3) (hi : i < n) (hn : n ≤ 4) :
 Ok Tryz.prog 41 [rp j, i64 pl, i64 v, i64 i, i64 n] (mvD H j l a) (.ret (st (B (stB (turnC l pl v i n a).1)))) (mvD H j l (turnC l pl v i n a).2) := by
 refine ok_fn hm Tryz.func41 c41 (by simp [rp, hd.lt]) fun hcl => ?_
 have hc : ∀ b, closed (mvD H j l b) := fun b => by have := mvD_cl (j := j) (l := l) hcl b; unfold mvD at this; rwa [List.set_set] at this
 have g1 := go37 hd ha hl [] 4 (by decide)
 have a1 := nx_le (n := 4) ha
 have g2 := go72 hd a1 hl [] hv h3
 have a2 := gx_le (v := v) (n := 4) a1
 have cl := cdB_len (gx l v 4 (nx l a 4).2).1
 have g3 := go37 hd a1 hl [] pl (by omega)
 have b3 := nx_lt (l := l) (a := (nx l a 4).2) hp
 have a3 := nx_le (n := pl) a1
 have key : ∀ (w : Option GX) (p c : Nat), whoC l pl v a = ((w, p), c) -> c ≤ l.length -> ∀ (env : Env), env.get 0 = rp j -> env.get 2 = i64 v -> env.get 3 = i64 i -> env.get 4 = i64 n -> env.get 11 = st (B ([116, 117, 114, 110, 32] ++ whoB w p)) →
  X Tryz.prog Tryz.f41.ntmps drawB (IC.tl 3 i41) env (mvD H j l c) (Fin H.length r41 (.ret (st (B (stB (turnC l pl v i n a).1)))) (mvD H j l (turnC l pl v i n a).2)) := by
  intro w p c hw hc' env h0 h2 h3' h4 h11
  have wl := whoB_len w p
  have e : turnC l pl v i n a = (.turn w p (actsC l v i n (1 + (nx l c 3).1) 0 (nx l c 3).2).1, (actsC l v i n (1 + (nx l c 3).1) 0 (nx l c 3).2).2) := by dsimp only [turnC]; rw [hw]
  rw [e]
  have g1 := go37 hd hc' hl [] 3 (by decide)
  have b1 := nx_lt (l := l) (a := c) (n := 3) (by decide)
  have a1 := nx_le (n := 3) hc'
  generalize nx l c 3 = q at *
  obtain ⟨x, d⟩ := q
  simp only [List.append_nil, stB] at *
  have e6 : IntKind.i64.wrap (1 + (x : Int)) = ((1 + x : Nat) : Int) := by rw [wrap_id (by omega) (by omega)]; omega
  have hal := actsB_len _ 0 (actsC_sets (l := l) (v := v) (i := i) (n := n) (1 + x) 0 d)
  rw [actsC_len] at hal
  unfold turnB
  generalize whoB w p = tw at *
  simp -implicitDefEqProofs [IC.tl, i41, h0, h2, h3', h4, h11, B_cat, B_size]
  repeat (refine ⟨by omega, ?_⟩)
  refine call_go g1 ?_
  simp -implicitDefEqProofs [IC.tl, i41, h0, h2, h3', h4, h11, B_cat, B_size, e6]
  refine LI.cong (H' := mvD H j l d ++ []) (by simp) ?_
  refine loop41_0 hd hl (v := v) (i := i) (n := n) (w := 1 + x) hv h3 hi hn (by omega) (1 + x) 0 d ([116, 117, 114, 110, 32] ++ tw ++ [32, 123, 10]) [] _ a1 (by omega) (by simp; omega) ⟨?_, ?_, ?_, ?_, ?_, ?_⟩ ?_ fun env G h112 => ?_
  · simp [h0]
  · simp [h2]
  · simp [h3']
  · simp [h4]
  · simp
  · simp
  · simp
  · generalize actsC l v i n (1 + x) 0 d = r at *
    simp -implicitDefEqProofs [h112, B_cat, B_size, r41]
    repeat (refine ⟨by omega, ?_⟩)
    exact cv_fz 1 (hc _) (List.length_set ..).symm (by simp)
 unfold whoC at key
 generalize gx l v 4 (nx l a 4).2 = q2 at *
 generalize nx l (nx l a 4).2 pl = q3 at *
 generalize nx l a 4 = q1 at *
 obtain ⟨x1, c1⟩ := q1
 obtain ⟨x2, c2⟩ := q2
 obtain ⟨x3, c3⟩ := q3
 simp only [List.append_nil] at *
 have hd41 : i41 = .seq (IC.nth 0 i41) (.seq (IC.nth 1 i41) (.seq (IC.nth 2 i41) (IC.tl 3 i41))) := rfl
 rw [hd41]
 generalize IC.tl 3 i41 = tl at *
 have w1 : IntKind.i64.wrap ((pl : Int) - 1) = ((pl - 1 : Nat) : Int) := by rw [wrap_id (by omega) (by omega)]; omega
 simp -implicitDefEqProofs [IC.nth, i41]
 refine call_go g1 ?_
 rcases (by omega : x1 = 0 ∨ ¬ x1 = 0) with h1 | h1
 · rw [if_pos h1] at key
   have g6 := fun H => ok38 (H := H) (n := pl - 1) (by omega)
   have ld : (dg (pl - 1)).length = 1 := rfl
   simp -implicitDefEqProofs [h1]
   refine call_go g2 ?_
   simp -implicitDefEqProofs [B_cat, B_size, w1]
   repeat (refine ⟨by omega, ?_⟩)
   refine call_go (g6 _) ?_
   have key := key (some x2) (pl - 1) c2 rfl a2
   simp only [whoB] at key
   generalize dg (pl - 1) = t5 at *
   simp -implicitDefEqProofs [B_cat, B_size]
   repeat (refine ⟨by omega, ?_⟩)
   refine key _ ?_ ?_ ?_ ?_ ?_
   all_goals simp
 · rw [if_neg h1] at key
   have g6 := fun H => ok38 (H := H) (n := x3) (by omega)
   have ld : (dg x3).length = 1 := rfl
   simp -implicitDefEqProofs [h1]
   refine call_go g3 ?_
   simp -implicitDefEqProofs [B_cat, B_size]
   refine call_go (g6 _) ?_
   have key := key none x3 c3 rfl a3
   simp only [whoB] at key
   generalize dg x3 = t5 at *
   simp -implicitDefEqProofs [B_cat, B_size]
   repeat (refine ⟨by omega, ?_⟩)
   refine key _ ?_ ?_ ?_ ?_ ?_
   all_goals simp
end
end Go.Proofs.YthmdmnfojbnobaaGreatDoor
namespace Go.Proofs.YthmdmnfojbnobaaGreatDoor
open Go.Ab
structure R17 (j pl v n : Nat) (env : Env) : Prop where
 h3 : env.get 3 = rp j
 h4 : env.get 4 = i64 pl
 h5 : env.get 5 = i64 v
 h6 : env.get 6 = i64 n
theorem rngW_len (k : Nat) : (rngW.getD k []).length ≤ 6 := by
 match k with
 | 0 | 1 | 2 | 3 => decide
 | k + 4 => simp [rngW]
theorem iniW_len (k : Nat) : (iniW.getD k []).length ≤ 2 := by
 match k with
 | 0 | 1 | 2 | 3 => decide
 | k + 4 => simp [iniW]
section
variable {H : List AO} {j : Nat} {l : List Int}
theorem stC_len {pl v i n a : Nat} : (stB (stC l pl v i n a).1).length ≤ 1300 := by
 unfold stC
 split
 · dsimp only [dealC, stB, dealB]
   have h1 := rngW_len (nx l (nx l (nx l a 3).2 v).2 4).1
   have h2 := wgB_len (nx l (nx l (nx l (nx l a 3).2 v).2 4).2 4).1 (nx l (nx l a 3).2 v).1
   have h3 := seeB_len (seeC l pl (nx l (nx l (nx l (nx l a 3).2 v).2 4).2 4).2).1.1 (seeC l pl (nx l (nx l (nx l (nx l a 3).2 v).2 4).2 4).2).1.2
   have h4 : (vN (nx l (nx l a 3).2 v).1).length = 2 := rfl
   simp only [List.length_append, List.length_cons, List.length_nil]
   omega
 · dsimp only [turnC, stB, turnB]
   generalize (nx l a 3).2 = b
   have h1 := whoB_len (whoC l pl v b).1.1 (whoC l pl v b).1.2
   have h2 := actsB_len _ 0 (actsC_sets (l := l) (v := v) (i := i) (n := n) (1 + (nx l (whoC l pl v b).2 3).1) 0 (nx l (whoC l pl v b).2 3).2)
   rw [actsC_len] at h2
   have h3 := nx_lt (l := l) (a := (whoC l pl v b).2) (n := 3) (by decide)
   simp only [List.length_append, List.length_cons, List.length_nil]
   omega
theorem go40 (hd : Dr H j l) {a : Nat} (ha : a ≤ l.length) (hl : l.length < 4611686018427387904) (G : List AO) {v pl : Nat} (hv : 1 ≤ v) (h3 : v ≤ 3) (hp : 1 ≤ pl) (hp3 : pl ≤ 3) :
 Ok Tryz.prog 40 [rp j, i64 pl, i64 v] (mvD H j l a ++ G) (.ret (st (B (stB (dealC l pl v a).1)))) (mvD H j l (dealC l pl v a).2 ++ G) := by
 have := ok40 (hd.app G) ha hl hv h3 hp hp3
 unfold mvD at this
 rwa [List.set_append_left _ _ hd.lt, List.set_append_left _ _ hd.lt] at this
theorem go41 (hd : Dr H j l) {a : Nat} (ha : a ≤ l.length) (hl : l.length < 4611686018427387904) (G : List AO) {v pl i n : Nat} (hv : 1 ≤ v) (h3 : v ≤ 3) (hp : 1 ≤ pl) (hp3 : pl ≤ 3) (hi : i < n) (hn : n ≤ 4) :
 Ok Tryz.prog 41 [rp j, i64 pl, i64 v, i64 i, i64 n] (mvD H j l a ++ G) (.ret (st (B (stB (turnC l pl v i n a).1)))) (mvD H j l (turnC l pl v i n a).2 ++ G) := by
 have := ok41 (hd.app G) ha hl hv h3 hp hp3 hi hn
 unfold mvD at this
 rwa [List.set_append_left _ _ hd.lt, List.set_append_left _ _ hd.lt] at this
theorem loop17_0 (hd : Dr H j l) (hl : l.length < 4611686018427387904) {pl v n : Nat} (hv : v ≤ 3) {N : Nat} {K : XE -> Env -> List AO -> Prop} :
 ∀ (m i a : Nat) (P : List UInt8) (G : List AO) (env : Env), a ≤ l.length -> i + m = v -> P.length + 40 * m ≤ 1000000 -> R17 j pl v n env -> env.get 7 = st (B P) -> env.get 8 = i64 i →
  (∀ env G, R17 j pl v n env -> env.get 7 = st (B (P ++ iniB i (iniC l m a).1)) -> K (.exit 0) env (mvD H j l (iniC l m a).2 ++ G)) -> LI Tryz.prog N drawB l17_0 env (mvD H j l a ++ G) K := by
 intro m
 induction m with
 | zero =>
  intro i a P G env ha hm' hP he h7 h8 hk
  refine li_go hm l17_0.eq_1 ?_
  have : i = v := by omega
  subst this
  simp -implicitDefEqProofs [he.h5, h8]
  refine hk _ _ ⟨?_, ?_, ?_, ?_⟩ ?_
  all_goals simp [he.h3, he.h4, he.h5, he.h6, h7, iniB, iniC]
 | succ m ih =>
  intro i a P G env ha hm9 hP he h7 h8 hk
  refine li_go hm l17_0.eq_1 ?_
  have hiv : (i : Int) < v := by omega
  have hiv' : i < v := by omega
  have g1 := fun H => ok38 (H := H) (n := i) (by omega)
  have ld : (dg i).length = 1 := rfl
  have g2 := fun L k (h : L[k]? = some ⟨wds iniW, 9, 0, true⟩) => go39 hd ha hl L (x := .own (H.length + k) 0 4 1 0) (ws := iniW) (fun b => row1 h rfl b) (by decide) (by decide)
  have a1 := nx_le (n := 4) ha
  simp only [show iniW.length = 4 from rfl] at g2
  have wl := iniW_len (nx l a 4).1
  have hk2 : ∀ env G, R17 j pl v n env -> env.get 7 = st (B ((P ++ [118, 97, 114, 32, 118] ++ dg i ++ [32, 61, 32] ++ iniW.getD (nx l a 4).1 [] ++ [59, 10]) ++ iniB (i + 1) (iniC l m (nx l a 4).2).1)) -> K (.exit 0) env (mvD H j l (iniC l m (nx l a 4).2).2 ++ G) := by
   intro env G e1 e2
   refine hk env G e1 ?_
   rw [e2]; simp [iniC, iniB]
  clear hk
  have ih := fun P G env => ih (i + 1) (nx l a 4).2 P G env a1 (by omega)
  generalize iniC l m (nx l a 4).2 = r at *
  generalize nx l a 4 = q at *
  obtain ⟨x, c⟩ := q
  simp only at *
  generalize iniW.getD x [] = tx at *
  generalize dg i = t1 at *
  simp -implicitDefEqProofs [he.h3, he.h5, h7, h8, hiv, hiv', B_cat, B_size]
  repeat (refine ⟨by omega, ?_⟩)
  refine call_go (g1 _) ?_
  simp -implicitDefEqProofs [he.h3, he.h5, h7, h8, hiv, hiv', B_cat, B_size]
  repeat (refine ⟨by omega, ?_⟩)
  refine call_go (g2 _ G.length (by simp; rfl)) ?_
  simp -implicitDefEqProofs [he.h3, he.h5, h7, h8, hiv, hiv', B_cat, B_size]
  repeat (refine ⟨by omega, ?_⟩)
  refine ih (P ++ [118, 97, 114, 32, 118] ++ t1 ++ [32, 61, 32] ++ tx ++ [59, 10]) _ _ (by simp; omega) ⟨?_, ?_, ?_, ?_⟩ ?_ ?_ hk2
  all_goals simp [he.h3, he.h4, he.h5, he.h6, wrap_suc (show i < 9223372036854775807 by omega)]
theorem loop17_1 (hd : Dr H j l) (hl : l.length < 4611686018427387904) {pl v n : Nat} (hp : 1 ≤ pl) (hp3 : pl ≤ 3) (hv1 : 1 ≤ v) (hv : v ≤ 3) (hn : n ≤ 4) {N : Nat} {K : XE -> Env -> List AO -> Prop} :
 ∀ (m i a : Nat) (P : List UInt8) (G : List AO) (env : Env), a ≤ l.length -> i + m = n -> P.length + 1400 * m ≤ 1000000 -> R17 j pl v n env -> env.get 7 = st (B P) -> env.get 9 = i64 i →
  (∀ env G, R17 j pl v n env -> env.get 7 = st (B (P ++ stsB i (stsC l pl v n m i a).1)) -> K (.exit 2) env (mvD H j l (stsC l pl v n m i a).2 ++ G)) -> LI Tryz.prog N drawB l17_1 env (mvD H j l a ++ G) K := by
 intro m
 induction m with
 | zero =>
  intro i a P G env ha hm' hP he h7 h8 hk
  refine li_go hm l17_1.eq_1 ?_
  have : i = n := by omega
  subst this
  simp -implicitDefEqProofs [he.h6, h8]
  refine hk _ _ ⟨?_, ?_, ?_, ?_⟩ ?_
  all_goals simp [he.h3, he.h4, he.h5, he.h6, h7, stsB, stsC]
 | succ m ih =>
  intro i a P G env ha hm9 hP he h7 h8 hk
  refine li_go hm l17_1.eq_1 ?_
  have hiv : (i : Int) < n := by omega
  have hiv' : i < n := by omega
  have g1 := fun H => ok38 (H := H) (n := i) (by omega)
  have ld : (dg i).length = 1 := rfl
  have g2 := go37 hd ha hl G 3 (by decide)
  have a1 := nx_le (n := 3) ha
  have g3 := go40 hd a1 hl G hv1 hv hp hp3
  have g4 := go41 hd a1 hl G hv1 hv hp hp3 hiv' hn
  have sl := stC_len (l := l) (pl := pl) (v := v) (i := i) (n := n) (a := a)
  have a2 := stC_le (pl := pl) (v := v) (i := i) (n := n) ha
  have hk2 : ∀ env G, R17 j pl v n env -> env.get 7 = st (B ((P ++ [115] ++ dg i ++ [58, 32] ++ stB (stC l pl v i n a).1) ++ stsB (i + 1) (stsC l pl v n m (i + 1) (stC l pl v i n a).2).1)) -> K (.exit 2) env (mvD H j l (stsC l pl v n m (i + 1) (stC l pl v i n a).2).2 ++ G) := by
   intro env G e1 e2
   refine hk env G e1 ?_
   rw [e2]; simp [stsC, stsB, lbB]
  clear hk
  have ih := fun P G env => ih (i + 1) (stC l pl v i n a).2 P G env a2 (by omega)
  generalize stsC l pl v n m (i + 1) (stC l pl v i n a).2 = r at *
  unfold stC at *
  generalize dealC l pl v (nx l a 3).2 = q3 at *
  generalize turnC l pl v i n (nx l a 3).2 = q4 at *
  generalize nx l a 3 = q at *
  obtain ⟨x, c⟩ := q
  obtain ⟨y3, c3⟩ := q3
  obtain ⟨y4, c4⟩ := q4
  simp only at *
  generalize dg i = t1 at *
  simp -implicitDefEqProofs [he.h3, he.h4, he.h5, he.h6, h7, h8, hiv, hiv', B_cat, B_size]
  repeat (refine ⟨by omega, ?_⟩)
  refine call_go (g1 _) ?_
  simp -implicitDefEqProofs [he.h3, he.h4, he.h5, he.h6, h7, h8, hiv, hiv', B_cat, B_size]
  repeat (refine ⟨by omega, ?_⟩)
  refine call_go g2 ?_
  rcases (by omega : x = 0 ∨ ¬ x = 0) with h1 | h1
  · simp only [if_pos h1] at *
    simp -implicitDefEqProofs [he.h3, he.h4, he.h5, he.h6, h7, h8, hiv, hiv', B_cat, B_size, h1]
    refine call_go g3 ?_
    generalize stB y3 = ts at *
    simp -implicitDefEqProofs [he.h3, he.h4, he.h5, he.h6, h7, h8, hiv, hiv', B_cat, B_size]
    repeat (refine ⟨by omega, ?_⟩)
    refine ih (P ++ [115] ++ t1 ++ [58, 32] ++ ts) _ _ (by simp; omega) ⟨?_, ?_, ?_, ?_⟩ ?_ ?_ hk2
    all_goals simp [he.h3, he.h4, he.h5, he.h6, wrap_suc (show i < 9223372036854775807 by omega)]
  · simp only [if_neg h1] at *
    simp -implicitDefEqProofs [he.h3, he.h4, he.h5, he.h6, h7, h8, hiv, hiv', B_cat, B_size, h1]
    refine call_go g4 ?_
    generalize stB y4 = ts at *
    simp -implicitDefEqProofs [he.h3, he.h4, he.h5, he.h6, h7, h8, hiv, hiv', B_cat, B_size]
    repeat (refine ⟨by omega, ?_⟩)
    refine ih (P ++ [115] ++ t1 ++ [58, 32] ++ ts) _ _ (by simp; omega) ⟨?_, ?_, ?_, ?_⟩ ?_ ?_ hk2
    all_goals simp [he.h3, he.h4, he.h5, he.h6, wrap_suc (show i < 9223372036854775807 by omega)]
theorem loop17_2 (hd : Dr H j l) (hl : l.length < 4611686018427387904) {pl v : Nat} (hp3 : pl ≤ 3) (hv1 : 1 ≤ v) (hv : v ≤ 3) {G : List AO} {N : Nat} {K : XE -> Env -> List AO -> Prop} :
 ∀ (m i a : Nat) (P : List UInt8) (env : Env), a ≤ l.length -> i + m = pl -> P.length + 50 * m ≤ 1000000 -> env.get 3 = rp j -> env.get 4 = i64 pl -> env.get 5 = i64 v -> env.get 7 = st (B P) -> env.get 10 = i64 i →
  (∀ env, env.get 7 = st (B (P ++ paysB (decide (0 < i)) (paysC l v m a).1)) -> K (.exit 4) env (mvD H j l (paysC l v m a).2 ++ G)) -> LI Tryz.prog N drawB l17_2 env (mvD H j l a ++ G) K := by
 intro m
 induction m with
 | zero =>
  intro i a P env ha hm' hP h3 h4 h5 h7 h8 hk
  refine li_go hm l17_2.eq_1 ?_
  have : i = pl := by omega
  subst this
  simp -implicitDefEqProofs [h4, h8]
  refine hk _ ?_
  simp [h7, paysB, paysC]
 | succ m ih =>
  intro i a P env ha hm9 hP h3 h4 h5 h7 h8 hk
  refine li_go hm l17_2.eq_1 ?_
  have hiv : (i : Int) < pl := by omega
  have hiv' : i < pl := by omega
  have g1 := go42 hd ha hl G hv1 hv
  have a1 := gx_le (v := v) (n := 8) ha
  have el := exB_len (gx l v 8 a).1
  have hk2 : ∀ env, env.get 7 = st (B ((P ++ (if 0 < i then [44, 32] else []) ++ exB (gx l v 8 a).1) ++ paysB (decide (0 < i + 1)) (paysC l v m (gx l v 8 a).2).1)) -> K (.exit 4) env (mvD H j l (paysC l v m (gx l v 8 a).2).2 ++ G) := by
   intro env e2
   refine hk env ?_
   rw [e2]; simp [paysC, paysB]
  clear hk
  have ih := fun P env => ih (i + 1) (gx l v 8 a).2 P env a1 (by omega)
  generalize paysC l v m (gx l v 8 a).2 = r at *
  generalize gx l v 8 a = q at *
  obtain ⟨x, c⟩ := q
  simp only at *
  generalize exB x = tx at *
  rcases (by omega : 0 < i ∨ i = 0) with h1 | h1
  · simp only [if_pos h1] at *
    simp -implicitDefEqProofs [h3, h4, h5, h7, h8, hiv, hiv', B_cat, B_size, h1]
    repeat (refine ⟨by omega, ?_⟩)
    refine call_go g1 ?_
    simp -implicitDefEqProofs [h3, h4, h5, h7, h8, hiv, hiv', B_cat, B_size]
    repeat (refine ⟨by omega, ?_⟩)
    refine ih (P ++ [44, 32] ++ tx) _ (by simp; omega) ?_ ?_ ?_ ?_ ?_ hk2
    all_goals simp [h3, h4, h5, wrap_suc (show i < 9223372036854775807 by omega)]
  · simp only [if_neg (show ¬ 0 < i by omega)] at *
    subst h1
    simp -implicitDefEqProofs [h3, h4, h5, h7, h8, hiv, hiv', B_cat, B_size]
    repeat (refine ⟨by omega, ?_⟩)
    refine call_go g1 ?_
    simp -implicitDefEqProofs [h3, h4, h5, h7, h8, hiv, hiv', B_cat, B_size]
    repeat (refine ⟨by omega, ?_⟩)
    refine ih (P ++ [] ++ tx) _ (by simp; omega) ?_ ?_ ?_ ?_ ?_ hk2
    all_goals simp [h3, h4, h5, show IntKind.i64.wrap 1 = 1 from rfl]
end
end Go.Proofs.YthmdmnfojbnobaaGreatDoor
namespace Go.Proofs.YthmdmnfojbnobaaGreatDoor
open Go.Ab
theorem iniB_len : ∀ (cs : List Nat) (i : Nat), (iniB i cs).length ≤ 40 * cs.length
 | [], _ => by simp [iniB]
 | c :: r, i => by
  have h1 := iniW_len c
  have h2 := iniB_len r (i + 1)
  simp only [iniB, dg, List.length_append, List.length_cons, List.length_nil]; omega
theorem iniC_len {l : List Int} : ∀ {m a : Nat}, (iniC l m a).1.length = m
 | 0, _ => rfl
 | m + 1, _ => congrArg (· + 1) (iniC_len (m := m))
theorem stsC_len {l : List Int} {pl v n : Nat} : ∀ {m i a : Nat}, (stsC l pl v n m i a).1.length = m
 | 0, _, _ => rfl
 | m + 1, _, _ => congrArg (· + 1) (stsC_len (m := m))
theorem paysC_len {l : List Int} {v : Nat} : ∀ {m a : Nat}, (paysC l v m a).1.length = m
 | 0, _ => rfl
 | m + 1, _ => congrArg (· + 1) (paysC_len (m := m))
theorem stsB_len {l : List Int} {pl v n : Nat} : ∀ (m i a : Nat), (stsB i (stsC l pl v n m i a).1).length ≤ 1400 * m
 | 0, _, _ => by simp [stsB, stsC]
 | m + 1, i, a => by
  have h1 := stC_len (l := l) (pl := pl) (v := v) (i := i) (n := n) (a := a)
  have h2 := stsB_len (l := l) (pl := pl) (v := v) (n := n) m (i + 1) (stC l pl v i n a).2
  simp only [stsC, stsB, lbB, dg, List.length_append, List.length_cons, List.length_nil]; omega
theorem paysB_len : ∀ (cs : List GX) (b : Bool), (paysB b cs).length ≤ 50 * cs.length
 | [], _ => by simp [paysB]
 | c :: r, b => by
  have h1 := exB_len c
  have h2 := paysB_len r true
  cases b <;> simp only [paysB, if_true, Bool.false_eq_true, if_false, List.length_append, List.length_cons, List.length_nil] <;> omega
section
variable {H : List AO} {l : List Int}
theorem ok17 (hl : l.length < 4611686018427387904) : Ok Tryz.prog 17 [.slc (ints l) l.length] H (.ret (st (B (genB (genC l))))) H := by
 refine ok_fn hm Tryz.func17 c17 (by simp [SV.under, SV.underL_iff, ints]) fun hcl => ?_
 have hd : Dr (H ++ [drO l 0]) H.length l := ⟨0, by simp⟩
 have e0 : ∀ b, H ++ [drO l b] = mvD (H ++ [drO l 0]) H.length l b := fun b => by simp [mvD]
 have g1 := go37 hd (Nat.zero_le _) hl [] 3 (by decide)
 have a1 := nx_le (n := 3) (Nat.zero_le l.length)
 have b1 := nx_lt (l := l) (a := 0) (n := 3) (by decide)
 have g2 := go37 hd a1 hl [] 3 (by decide)
 have a2 := nx_le (n := 3) a1
 have b2 := nx_lt (l := l) (a := (nx l 0 3).2) (n := 3) (by decide)
 have g3 := go37 hd a2 hl [] 4 (by decide)
 have a3 := nx_le (n := 4) a2
 have b3 := nx_lt (l := l) (a := (nx l (nx l 0 3).2 3).2) (n := 4) (by decide)
 have g4 := go37 hd a3 hl [] 9 (by decide)
 have a4 := nx_le (n := 9) a3
 have b4 := nx_lt (l := l) (a := (nx l (nx l (nx l 0 3).2 3).2 4).2) (n := 9) (by decide)
 dsimp only [genC, genB]
 rw [stsC_len]
 generalize nx l (nx l (nx l (nx l 0 3).2 3).2 4).2 9 = q4 at *
 generalize nx l (nx l (nx l 0 3).2 3).2 4 = q3 at *
 generalize nx l (nx l 0 3).2 3 = q2 at *
 generalize nx l 0 3 = q1 at *
 obtain ⟨x1, c1⟩ := q1
 obtain ⟨x2, c2⟩ := q2
 obtain ⟨x3, c3⟩ := q3
 obtain ⟨x4, c4⟩ := q4
 simp only [List.append_nil] at *
 have w1 : IntKind.i64.wrap (1 + (x1 : Int)) = ((1 + x1 : Nat) : Int) := by rw [wrap_id (by omega) (by omega)]; omega
 have w2 : IntKind.i64.wrap (1 + (x2 : Int)) = ((1 + x2 : Nat) : Int) := by rw [wrap_id (by omega) (by omega)]; omega
 have w3 : IntKind.i64.wrap (1 + (x3 : Int)) = ((1 + x3 : Nat) : Int) := by rw [wrap_id (by omega) (by omega)]; omega
 have k1 := fun H => ok38 (H := H) (n := x4) (by omega)
 have k2 := fun H => ok38 (H := H) (n := 1 + x1) (by omega)
 have k3 := fun H => ok38 (H := H) (n := 1 + x3) (by omega)
 have l1 : (dg x4).length = 1 := rfl
 have l2 : (dg (1 + x1)).length = 1 := rfl
 have l3 : (dg (1 + x3)).length = 1 := rfl
 rw [← e0] at g1
 simp -implicitDefEqProofs [i17, r17]
 refine call_go g1 ?_
 have hlen : (H ++ [drO l 0]).length = H.length + 1 := by simp
 clear g1
 generalize H ++ [drO l 0] = HH at *
 simp -implicitDefEqProofs [w1]
 refine call_go g2 ?_
 simp -implicitDefEqProofs [w2]
 refine call_go g3 ?_
 simp -implicitDefEqProofs [w3]
 refine call_go g4 ?_
 simp -implicitDefEqProofs
 refine call_go (k1 _) ?_
 simp -implicitDefEqProofs [B_cat, B_size, l1]
 refine call_go (k2 _) ?_
 simp -implicitDefEqProofs [B_cat, B_size, l1, l2]
 clear k1 k2 g2 g3 g4
 refine LI.cong (H' := mvD HH H.length l c4 ++ []) (by simp) ?_
 have i1 := iniB_len (iniC l (1 + x2) c4).1 0
 rw [iniC_len] at i1
 have a5 := iniC_le (m := 1 + x2) a4
 refine loop17_0 hd hl (pl := 1 + x1) (v := 1 + x2) (n := 1 + x3) (by omega) (1 + x2) 0 c4 ([103, 97, 109, 101, 32, 103] ++ dg x4 ++ [59, 10, 112, 108, 97, 121, 101, 114, 115, 32] ++ dg (1 + x1) ++ [59, 10]) [] _ a4 (by omega) (by simp [l1, l2]; omega) ⟨?_, ?_, ?_, ?_⟩ ?_ ?_ fun env G he h7 => ?_
 · simp [rp]
 · simp
 · simp
 · simp
 · simp
 · simp
 generalize iniC l (1 + x2) c4 = qi at *
 obtain ⟨ci, c5⟩ := qi
 simp only at *
 simp -implicitDefEqProofs [he.h3, he.h4, he.h5, he.h6, h7]
 have i2 := stsB_len (l := l) (pl := 1 + x1) (v := 1 + x2) (n := 1 + x3) (1 + x3) 0 c5
 have i3 := stsC_len (l := l) (pl := 1 + x1) (v := 1 + x2) (n := 1 + x3) (m := 1 + x3) (i := 0) (a := c5)
 have a6 := stsC_le (pl := 1 + x1) (v := 1 + x2) (n := 1 + x3) (m := 1 + x3) (i := 0) a5
 refine loop17_1 hd hl (pl := 1 + x1) (v := 1 + x2) (n := 1 + x3) (by omega) (by omega) (by omega) (by omega) (by omega) (1 + x3) 0 c5 ([103, 97, 109, 101, 32, 103] ++ dg x4 ++ [59, 10, 112, 108, 97, 121, 101, 114, 115, 32] ++ dg (1 + x1) ++ [59, 10] ++ iniB 0 ci) G _ a5 (by omega) (by simp [l1, l2]; omega) ⟨?_, ?_, ?_, ?_⟩ ?_ ?_ fun env G he h7 => ?_
 · simp [he.h3]
 · simp [he.h4]
 · simp [he.h5]
 · simp [he.h6]
 · simp [h7]
 · simp
 generalize stsC l (1 + x1) (1 + x2) (1 + x3) (1 + x3) 0 c5 = qs at *
 obtain ⟨ss, c6⟩ := qs
 simp only at *
 generalize stsB 0 ss = ts at *
 generalize iniB 0 ci = ti at *
 have i4 := paysB_len (paysC l (1 + x2) (1 + x1) c6).1 false
 rw [paysC_len] at i4
 have lp := fun P env K => loop17_2 hd hl (pl := 1 + x1) (v := 1 + x2) (by omega) (by omega) (by omega) (G := G) (N := Tryz.f17.ntmps) (K := K) (1 + x1) 0 c6 P env a6 (by omega)
 generalize paysC l (1 + x2) (1 + x1) c6 = qp at *
 obtain ⟨ps, c7⟩ := qp
 simp only [show decide (0 < 0) = false from rfl] at *
 generalize paysB false ps = tp at *
 simp -implicitDefEqProofs [he.h3, he.h4, he.h5, he.h6, h7, B_cat, B_size, l1, l2]
 repeat (refine ⟨by omega, ?_⟩)
 refine call_go (k3 _) ?_
 generalize dg x4 = t1 at *
 generalize dg (1 + x1) = t2 at *
 generalize dg (1 + x3) = t3 at *
 simp -implicitDefEqProofs [he.h3, he.h4, he.h5, he.h6, h7, B_cat, B_size, l1, l2]
 repeat (refine ⟨by omega, ?_⟩)
 refine lp ([103, 97, 109, 101, 32, 103] ++ t1 ++ [59, 10, 112, 108, 97, 121, 101, 114, 115, 32] ++ t2 ++ [59, 10] ++ ti ++ ts ++ [115] ++ t3 ++ [58, 32, 101, 110, 100, 32, 123, 32, 112, 97, 121, 32]) _ _ (by simp; omega) ?_ ?_ ?_ ?_ ?_ fun env h72 => ?_
 · simp [he.h3]
 · simp [he.h4]
 · simp [he.h5]
 · simp [h7]
 · simp
 simp -implicitDefEqProofs [h72, B_cat, B_size]
 repeat (refine ⟨by omega, ?_⟩)
 rw [← e0, List.append_assoc]
 exact cv_fz 1 hcl rfl (by simp)
end
end Go.Proofs.YthmdmnfojbnobaaGreatDoor
namespace Go.Proofs.YthmdmnfojbnobaaGreatDoor
open Go.Ab
theorem flt_map : ∀ (ts : List Tok) (i : Nat), i + ts.length ≤ 5000 -> fltE i (ts.map .tok) = (0, 0)
 | [], _, _ => rfl
 | t :: r, i, h => by
  simp only [List.length_cons] at h
  rw [List.map_cons, fltE, if_neg (by omega)]
  exact flt_map r (i + 1) (by omega)
theorem all2_len {ts : List Tok} {ks : List TK} (h : All2 ts ks) : ts.length = ks.length := by
 induction h with
 | nil => rfl
 | cons _ _ ih => simp [ih]
theorem scan_ok {ps : List Pc} (hg : good ps) (h1 : (txt ps).length ≤ 20000) (h2 : (tks ps).length ≤ 5000) : (scanG (txt ps)).2.1 = 0 := by
 obtain ⟨ts, g1, g2⟩ := evs_txt ps hg [] (txt ps).length (Nat.le_refl _) (.inl (.inl rfl))
 have g1 : evsT (txt ps) = ts.map .tok := g1
 have hf := flt_map ts 0 (by rw [all2_len g2]; omega)
 unfold scanG
 rw [if_neg (by omega), g1, hf, if_pos rfl]
theorem nt_ex (g : GX) : (tks (exPc g)).length ≤ 11 := by
 unfold exPc
 repeat' split
 all_goals simp [tks]
theorem nt_cd (g : GX) : (tks (cdPc g)).length ≤ 11 := by
 unfold cdPc
 repeat' split
 all_goals simp [tks]
theorem nt_sets : ∀ l : List (Nat × GX), (tks (l.flatMap setPx)).length ≤ 20 * l.length
 | [] => by simp [tks]
 | s :: r => by
  have h1 := nt_sets r
  have h2 := nt_ex s.2
  rw [List.flatMap_cons, tks_app, List.length_append, List.length_cons]
  simp [setPx, tks, tks_app]; omega
theorem nt_act {k : Nat} {g : GA} (h : g.sets.length ≤ 2) : (tks (actPx k g)).length ≤ 80 := by
 have h1 : (tks (whPx g.wh)).length ≤ 12 := by
  cases g.wh with
  | none => simp [whPx, tks]
  | some c => have := nt_cd c; simp [whPx, tks]; omega
 have h2 : (tks (flagPc kwH g.hid)).length ≤ 1 := by cases g.hid <;> decide
 have h3 := nt_sets g.sets
 have h4 : (tks (goPx g.go)).length ≤ 3 := by cases g.go <;> simp [goPx, tks]
 simp [actPx, tks, tks_app, pnl]; omega
theorem nt_acts : ∀ (l : List GA) (k : Nat), (∀ a ∈ l, a.sets.length ≤ 2) -> (tks (actsPx k l)).length ≤ 80 * l.length
 | [], _, _ => by simp [actsPx, tks]
 | g :: r, k, h => by
  have h1 := nt_act (k := k) (h g (by simp))
  have h2 := nt_acts r (k + 1) fun a ha => h a (by simp [ha])
  rw [actsPx, tks_app, List.length_append, List.length_cons]; omega
theorem nt_stg {pl v n i : Nat} {g : GS} (h : g.Wf pl v n i) : (tks (stPx g)).length ≤ 300 := by
 cases g with
 | deal x r w s p =>
  have h1 : (tks (wgPx w x)).length ≤ 30 := by
   unfold wgPx wgX
   repeat' split
   all_goals simp [tks]
  have h2 : (tks (seePx s p)).length ≤ 3 := by
   unfold seePx
   repeat' split
   all_goals simp [tks]
  simp [stPx, dealPx, tks, tks_app, pnl]; omega
 | turn w p acts =>
  have h1 : (tks (whoPx w p)).length ≤ 20 := by
   cases w with
   | none => simp [whoPx, tks]
   | some c => have := nt_cd c; simp [whoPx, tks, tks_app]; omega
  have h2 := nt_acts acts 0 fun a ha => (h.2.2.2.2 a ha).len
  have h3 := h.2.2.2.1
  simp [stPx, turnPx, tks, tks_app, pnl]; omega
theorem nt_sts {pl v n : Nat} : ∀ (l : List GS) (i : Nat), stsWf pl v n i l -> (tks (stsPx i l)).length ≤ 310 * l.length
 | [], _, _ => by simp [stsPx, tks]
 | g :: r, i, h => by
  have h1 := nt_stg h.1
  have h2 := nt_sts r (i + 1) h.2
  simp only [stsPx, tks_app, List.length_append, List.length_cons]
  simp [tks]; omega
theorem nt_ini : ∀ (l : List Nat) (i : Nat), (tks (iniPx i l)).length ≤ 10 * l.length
 | [], _ => by simp [iniPx, tks]
 | c :: r, i => by
  have h2 := nt_ini r (i + 1)
  have h1 : (tks (iniX c)).length ≤ 2 := by
   unfold iniX
   repeat' split
   all_goals simp [tks]
  simp only [iniPx, tks_app, List.length_append, List.length_cons]
  simp [tks, pnl]; omega
theorem nt_pays : ∀ (l : List GX) (b : Bool), (tks (paysPx b l)).length ≤ 20 * l.length
 | [], _ => by simp [paysPx, tks]
 | g :: r, b => by
  have h1 := nt_ex g
  have h2 := nt_pays r true
  cases b <;> (simp [paysPx, tks, tks_app]; omega)
theorem nt_gen {g : GR} (h : g.Wf) : (tks (genPx g)).length ≤ 5000 := by
 have h1 := nt_ini g.ini 0
 have h2 := nt_sts g.stages 0 h.sts
 have h3 := nt_pays g.pays false
 have := h.inl
 have := h.v3
 have := h.st4
 have := h.payl
 have := h.pl3
 simp [genPx, tks, tks_app, pnl]; omega
theorem gen_len (l : List Int) : (genB (genC l)).length ≤ 20000 := by
 dsimp only [genC, genB]
 have b1 := nx_lt (l := l) (a := 0) (n := 3) (by decide)
 have b2 := nx_lt (l := l) (a := (nx l 0 3).2) (n := 3) (by decide)
 have b3 := nx_lt (l := l) (a := (nx l (nx l 0 3).2 3).2) (n := 4) (by decide)
 generalize nx l (nx l (nx l 0 3).2 3).2 4 = q3 at *
 generalize nx l (nx l 0 3).2 3 = q2 at *
 generalize nx l 0 3 = q1 at *
 have i1 := iniB_len (iniC l (1 + q2.1) (nx l q3.2 9).2).1 0
 rw [iniC_len] at i1
 have i2 := stsB_len (l := l) (pl := 1 + q1.1) (v := 1 + q2.1) (n := 1 + q3.1) (1 + q3.1) 0 (iniC l (1 + q2.1) (nx l q3.2 9).2).2
 have i3 := paysB_len (paysC l (1 + q2.1) (1 + q1.1) (stsC l (1 + q1.1) (1 + q2.1) (1 + q3.1) (1 + q3.1) 0 (iniC l (1 + q2.1) (nx l q3.2 9).2).2).2).1 false
 rw [paysC_len] at i3
 simp only [List.length_append, List.length_cons, List.length_nil, dg]
 omega
theorem gen_scan (l : List Int) : (scanG (genB (genC l))).2.1 = 0 ∧ All2 (scanG (genB (genC l))).1 (tks (genPx (genC l))) := by
 have h := gen_wf l
 rw [← txt_gen h]
 have h1 := scan_ok (gen_good h) (by rw [txt_gen h]; exact gen_len l) (nt_gen h)
 exact ⟨h1, scan_txt (gen_good h) h1⟩
end Go.Proofs.YthmdmnfojbnobaaGreatDoor
namespace Go.Proofs.YthmdmnfojbnobaaGreatDoor
open Go.Ab
def setPp (s : Nat × GX) : SetP := ⟨vN s.1, exE s.2, 0⟩
def whL (w : Option GX) : List Ex := match w with
 | none => []
 | some c => [cdE c]
def goN (w : Option Nat) : List UInt8 := match w with
 | none => []
 | some t => sN t
def actPp (k : Nat) (g : GA) : ActP := ⟨aN k, whL g.wh, g.hid, g.sets.map setPp, goN g.go, 0⟩
def actsPp : Nat -> List GA -> List ActP
 | _, [] => []
 | k, g :: r => actPp k g :: actsPp (k + 1) r
def whoE (w : Option GX) (p : Nat) : Ex := match w with
 | none => eIn p
 | some g => eOp 20 [cdE g, eIn 0, eIn p]
def wgE (w x : Nat) : List Ex :=
 if w = 0 then [eOp 8 [eIn 1, eNm x]] else if w = 1 then [eOp 20 [eOp 10 [eNm x, eIn 1], eIn 2, eIn 1]]
 else if w = 2 then [eOp 8 [eOp 19 [eNm x, eIn 0], eOp 20 [eOp 10 [eNm x, eIn 2], eIn 0, eIn 1]]] else []
def stPp (i : Nat) : GS -> StageP
 | .deal x r w s p => ⟨1, sN i, vN x, loV r, hiV r, wgE w x, decide (s = 0), if s = 1 then [(p : Int)] else [], [], [], [], 0⟩
 | .turn w p acts => ⟨2, sN i, [], 0, 0, [], false, [], [whoE w p], actsPp 0 acts, [], 0⟩
def endPp (n : Nat) (l : List GX) : StageP := ⟨3, sN n, [], 0, 0, [], false, [], [], [], l.map exE, 0⟩
def stsPp : Nat -> List GS -> List StageP
 | _, [] => []
 | i, g :: r => stPp i g :: stsPp (i + 1) r
def iniV (c : Nat) : Int := if c = 0 then 0 else if c = 1 then 1 else if c = 2 then -1 else 2
def varsPp : Nat -> List Nat -> List VarP
 | _, [] => []
 | i, c :: r => ⟨vN i, iniV c, 0⟩ :: varsPp (i + 1) r
def genPp (g : GR) : RulesP := ⟨gN g.nm, g.pl, varsPp 0 g.ini, stsPp 0 g.stages ++ [endPp g.stages.length g.pays]⟩
theorem res2 {a b : UInt8} (h : (resv.all fun w => decide (w.length ≠ 2) || decide (w.headD 0 ≠ a)) = true) : [a, b] ∉ resv := by
 intro hm
 have := List.all_eq_true.1 h _ hm
 simp at this
theorem sN_res (i : Nat) : sN i ∉ resv := res2 (by decide)
theorem gN_res (i : Nat) : gN i ∉ resv := res2 (by decide)
theorem aN_res (k : Nat) : aN k ∉ resv := by
 intro hm
 have h : ∀ w ∈ resv, w.length ≠ 1 := by decide
 exact h _ hm rfl
section
variable {c : Cx} {r : Rd} {L : List TK}
theorem or_su {l : List TK} {e : Ex} (h : Whole c 40 l e) (hs : Sta c 40 r (l ++ L)) (hL : stpE L) : Sta c 40 (orT c r).2 L ∧ (orT c r).1.er = e.er := h r L hs hL
theorem set_su {s : Nat × GX} {acc : List SetP} (ha : acc.length < 32) (h : Sta c 40 r (tks (setPx s) ++ L)) : Sta c 40 (setR c (orT c) acc r).2 L ∧ (setR c (orT c) acc r).1.er = (setPp s).er := by
 have h : Sta c 40 r (.wd (vN s.1) :: .sg [61] :: (tks (exPc s.2) ++ .sg [59] :: L)) := by
  unfold setPx at h; simpa [tks, tks_app] using h
 unfold setR
 simp only
 rw [if_neg (by omega)]
 obtain ⟨g1, g2⟩ := h.word (vN_res s.1)
 rw [g1]
 obtain ⟨g4, g5⟩ := or_su (ex_wh s.2) (g2.t2 (s := [61]) rfl) (stp_of (s := [59]) (by decide) (.inl rfl) L)
 refine ⟨g4.t2 rfl, ?_⟩
 unfold SetP.er
 simp only [g5, setPp]
theorem sets_su : ∀ (ss : List (Nat × GX)) (n : Nat) (acc : List SetP) (r : Rd), ss.length < n -> acc.length + ss.length < 32 -> Sta c 40 r (tks (ss.flatMap setPx) ++ .sg [125] :: L) →
 Sta c 40 (setsL c (orT c) n acc r).2 (.sg [125] :: L) ∧ ∃ l, (setsL c (orT c) n acc r).1 = acc ++ l ∧ l.map SetP.er = (ss.map setPp).map SetP.er
 | [], n, acc, r, hn, ha, h => by
  have h : Sta c 40 r (.sg [125] :: L) := h
  cases n with
  | zero => simp at hn
  | succ n =>
   rw [setsL, if_neg (by rintro ⟨_, h2⟩; rw [h.peek] at h2; cases h2)]
   exact ⟨h, [], by simp, rfl⟩
 | s :: ss, n, acc, r, hn, ha, h => by
  have h : Sta c 40 r (tks (setPx s) ++ (tks (ss.flatMap setPx) ++ .sg [125] :: L)) := by
   rw [List.flatMap_cons, tks_app, List.append_assoc] at h; exact h
  simp only [List.length_cons] at hn ha
  cases n with
  | zero => omega
  | succ n =>
   have hp : peekR c [125] r = false := by rw [h.peek]; rfl
   rw [setsL, if_pos ⟨h.e, hp⟩]
   obtain ⟨g1, g2⟩ := set_su (acc := acc) (by omega) h
   obtain ⟨g3, l, g4, g5⟩ := sets_su ss n (acc ++ [(setR c (orT c) acc r).1]) _ (by omega) (by simp; omega) g1
   refine ⟨g3, (setR c (orT c) acc r).1 :: l, by rw [g4]; simp, ?_⟩
   simp only [List.map_cons, g2, g5]
theorem flag_su {w : List UInt8} {b : Bool} (hL : pk L w = false) (h : Sta c 40 r (tks (flagPc w b) ++ L)) : Sta c 40 (flagR c w r).2 L ∧ (flagR c w r).1 = b := by
 unfold flagR
 cases b with
 | true =>
  have h : Sta c 40 r (.wd w :: L) := h
  rw [if_pos (by rw [h.peek]; simp [pk])]
  exact ⟨h.t2 (by simp [pk]), rfl⟩
 | false =>
  have h : Sta c 40 r L := h
  rw [if_neg (by rw [h.peek, hL]; decide)]
  exact ⟨h, rfl⟩
theorem go_su {w : Option Nat} (hL : pk L kwGo = false) (h : Sta c 40 r (tks (goPx w) ++ L)) : Sta c 40 (gotoR c r).2 L ∧ (gotoR c r).1 = goN w := by
 unfold gotoR
 cases w with
 | none =>
  have h : Sta c 40 r L := h
  rw [if_neg (by rw [h.peek]; exact fun h => by rw [show pk L [103, 111, 116, 111] = false from hL] at h; cases h)]
  exact ⟨h, rfl⟩
 | some t =>
  have h : Sta c 40 r (.wd kwGo :: .wd (sN t) :: .sg [59] :: L) := h
  rw [if_pos (by rw [h.peek]; rfl)]
  obtain ⟨h2, h3⟩ := (h.t2 (s := [103, 111, 116, 111]) rfl).word (sN_res t)
  rw [h2]
  exact ⟨h3.t2 rfl, rfl⟩
theorem act_su {k : Nat} {g : GA} (hl : g.sets.length ≤ 2) (hL : pk L kwGo = false) (h : Sta c 40 r (tks (actPx k g) ++ L)) : Sta c 40 (actR c (orT c) r).2 L ∧ (actR c (orT c) r).1.er = (actPp k g).er := by
 have h : Sta c 40 r (.wd kwAc :: .wd (aN k) :: (tks (whPx g.wh) ++ (tks (flagPc kwH g.hid) ++ .sg [123] :: (tks (g.sets.flatMap setPx) ++ .sg [125] :: (tks (goPx g.go) ++ L))))) := by
  unfold actPx at h; simpa [tks, tks_app, pnl] using h
 unfold actR
 simp only
 have g1 := (h.take (s := [97, 99, 116, 105, 111, 110]) rfl).2
 obtain ⟨g2, g3⟩ := g1.word (aN_res k)
 rw [g2]
 simp only
 generalize nextR (takeR c [97, 99, 116, 105, 111, 110] r).2 = r1 at g3 ⊢
 have hfl : ∀ X : List TK, stpE (tks (flagPc kwH g.hid) ++ .sg [123] :: X) ∧ pk (tks (flagPc kwH g.hid) ++ .sg [123] :: X) kwWh = false := by
  intro X
  cases g.hid with
  | true => exact ⟨stp_of (s := kwH) (by decide) (.inr rfl) _, rfl⟩
  | false => exact ⟨stp_of (s := [123]) (by decide) (.inl rfl) _, rfl⟩
 have k12 : Sta c 40 (optR c (orT c) [119, 104, 101, 110] r1).2 (tks (flagPc kwH g.hid) ++ .sg [123] :: (tks (g.sets.flatMap setPx) ++ .sg [125] :: (tks (goPx g.go) ++ L))) ∧ Ex.erL (optR c (orT c) [119, 104, 101, 110] r1).1 = Ex.erL (whL g.wh) := by
  unfold optR
  cases hw : g.wh with
  | none =>
   rw [hw] at g3
   have g3 : Sta c 40 r1 (tks (flagPc kwH g.hid) ++ .sg [123] :: (tks (g.sets.flatMap setPx) ++ .sg [125] :: (tks (goPx g.go) ++ L))) := g3
   rw [if_neg (by rw [g3.peek]; exact fun h => by rw [show pk _ [119, 104, 101, 110] = false from (hfl _).2] at h; cases h)]
   exact ⟨g3, rfl⟩
  | some w =>
   rw [hw] at g3
   have g3 : Sta c 40 r1 (.wd kwWh :: (tks (cdPc w) ++ (tks (flagPc kwH g.hid) ++ .sg [123] :: (tks (g.sets.flatMap setPx) ++ .sg [125] :: (tks (goPx g.go) ++ L))))) := g3
   rw [if_pos (by rw [g3.peek]; rfl)]
   obtain ⟨m1, m2⟩ := or_su (cd_wh w) (g3.t2 (s := [119, 104, 101, 110]) rfl) (hfl _).1
   exact ⟨m1, by simp only [Ex.erL, whL, m2]⟩
 obtain ⟨k1, k2⟩ := k12
 obtain ⟨k3, k4⟩ := flag_su (w := [104, 105, 100, 100, 101, 110]) (b := g.hid) rfl k1
 have k5 := k3.t2 (s := [123]) rfl
 have hle := k5.len
 have hsl : g.sets.length < c.ts.length + 1 := by
  rw [List.length_append] at hle
  have : ∀ ss : List (Nat × GX), ss.length ≤ (tks (ss.flatMap setPx)).length := by
   intro ss
   induction ss with
   | nil => simp
   | cons s ss ih =>
    rw [List.flatMap_cons, tks_app, List.length_append]
    have : 1 ≤ (tks (setPx s)).length := by unfold setPx; simp [tks]
    simp only [List.length_cons]; omega
  have := this g.sets
  omega
 obtain ⟨k6, l, k7, k8⟩ := sets_su g.sets (c.ts.length + 1) [] _ hsl (by simp; omega) k5
 have k9 := k6.t2 (s := [125]) rfl
 obtain ⟨m1, m2⟩ := go_su hL k9
 refine ⟨m1, ?_⟩
 unfold ActP.er
 simp only [k2, k4, k7, List.nil_append, k8, m2, actPp]
theorem acts_su : ∀ (ms : List GA) (k n : Nat) (acc : List ActP) (r : Rd), ms.length ≤ n -> acc.length + ms.length ≤ 10 -> (∀ a ∈ ms, a.sets.length ≤ 2) -> Sta c 40 r (tks (actsPx k ms) ++ .sg [125] :: L) →
 Sta c 40 (actsL c (orT c) 0 n acc r).2 (.sg [125] :: L) ∧ ∃ l, (actsL c (orT c) 0 n acc r).1 = acc ++ l ∧ l.map ActP.er = (actsPp k ms).map ActP.er
 | [], k, n, acc, r, hn, ha, hs, h => by
  have h : Sta c 40 r (.sg [125] :: L) := h
  cases n with
  | zero => exact ⟨h, [], by simp [actsL], rfl⟩
  | succ n =>
   rw [actsL, if_neg (by rw [h.peek]; exact fun h => by cases h)]
   exact ⟨h, [], by simp, rfl⟩
 | m :: ms, k, n, acc, r, hn, ha, hs, h => by
  have h : Sta c 40 r (tks (actPx k m) ++ (tks (actsPx (k + 1) ms) ++ .sg [125] :: L)) := by
   rw [actsPx, tks_app, List.append_assoc] at h; exact h
  simp only [List.length_cons] at hn ha
  cases n with
  | zero => omega
  | succ n =>
   rw [actsL, if_pos (by rw [h.peek]; rfl)]
   simp only
   rw [if_neg (by omega)]
   obtain ⟨g1, g2⟩ := act_su (hs m (by simp)) (by
    cases ms with
    | nil => rfl
    | cons y ys => rfl) h
   obtain ⟨g3, l, g4, g5⟩ := acts_su ms (k + 1) n (acc ++ [(actR c (orT c) r).1]) _ (by omega) (by simp; omega) (fun a ha => hs a (by simp [ha])) g1
   exact ⟨g3, (actR c (orT c) r).1 :: l, by rw [g4]; simp, by simp only [actsPp, List.map_cons, g2, g5]⟩
theorem acts_ln : ∀ (ss : List GA) (k : Nat), ss.length ≤ (tks (actsPx k ss)).length
 | [], _ => by simp
 | s :: ss, k => by
  have := acts_ln ss (k + 1)
  rw [actsPx, tks_app, List.length_append]
  have : 1 ≤ (tks (actPx k s)).length := by unfold actPx; simp [tks]
  simp only [List.length_cons]; omega
theorem who_su {w : Option GX} {p : Nat} : Whole c 40 (tks (whoPx w p)) (whoE w p) := by
 cases w with
 | none => exact wh_num p
 | some g =>
  have h := wh0 (c := c) (fac_call (d := 39) (w := wIf) (x := tks (cdPc g)) (xs := [[.nm 0], [.nm p]]) (show (wIf, (20 : Int), 2) ∈ wrdO by decide) (cd_wh g) (.cons (wh_num 0) (.cons (wh_num p) .nil))) fun _ => rfl
  have e : tks (whoPx (some g) p) = .wd wIf :: .sg [40] :: (tks (cdPc g) ++ cmm [[.nm 0], [.nm p]] ++ [.sg [41]]) := by simp [whoPx, tks, tks_app, cmm]
  rw [e]; exact h
theorem turn_su {i p : Nat} {w : Option GX} {acts : List GA} {y : StageP} (hy : y = { zStage with lb := sN i }) (h1 : 1 ≤ acts.length) (h3 : acts.length ≤ 3) (hs : ∀ a ∈ acts, a.sets.length ≤ 2) (h : Sta c 40 r (tks (turnPx w p acts) ++ L)) :
 Sta c 40 (turnR c (orT c) y r).2 L ∧ (turnR c (orT c) y r).1.er = (stPp i (.turn w p acts)).er := by
 obtain ⟨a, rest, ha⟩ : ∃ a rest, acts = a :: rest := by
  cases acts with
  | nil => simp at h1
  | cons a rest => exact ⟨a, rest, rfl⟩
 subst ha
 simp only [List.length_cons] at h3
 have h : Sta c 40 r (.wd kwT :: (tks (whoPx w p) ++ .sg [123] :: (tks (actPx 0 a) ++ (tks (actsPx 1 rest) ++ .sg [125] :: L)))) := by
  unfold turnPx at h; simpa [tks, tks_app, actsPx, pnl] using h
 unfold turnR
 simp only
 have g1 := (h.take (s := [116, 117, 114, 110]) rfl).2
 generalize takeR c [116, 117, 114, 110] r = t at g1 ⊢
 obtain ⟨g2, g3⟩ := or_su who_su g1 (stp_of (s := [123]) (by decide) (.inl rfl) _)
 have g4 := g2.t2 (s := [123]) rfl
 obtain ⟨g5, g6⟩ := act_su (hs a (by simp)) (by
  cases rest with
  | nil => rfl
  | cons y ys => rfl) g4
 have hle := g5.len
 have hal := acts_ln rest 1
 rw [List.length_append] at hle
 obtain ⟨g7, l, g8, g9⟩ := acts_su rest 1 c.ts.length [(actR c (orT c) (t2 c [123] (orT c t.2).2)).1] _ (by omega) (by simp; omega) (fun a ha => hs a (by simp [ha])) g5
 refine ⟨g7.t2 rfl, ?_⟩
 unfold StageP.er
 simp only [hy, zStage, stPp, g8, List.cons_append, List.nil_append, List.map_cons, g6, g9, Ex.erL, g3, actsPp]
theorem wg_su {w x : Nat} (hw : w < 3) : ∃ e, wgE w x = [e] ∧ Whole c 40 (tks (wgX w x)) e := by
 unfold wgE wgX
 by_cases h0 : w = 0
 · rw [if_pos h0, if_pos h0]
   exact ⟨_, rfl, wh_sum [43] 8 (la := [.nm 1]) (rq1 fac_num) (rq1 (nm1 x)) (by decide) (by decide) fun _ => rfl⟩
 rw [if_neg h0, if_neg h0]
 have ifx : ∀ (a b q : Nat), Red c 40 (lv c 40).fac (.wd wIf :: .sg [40] :: (([.wd (vN x)] ++ .sg [61, 61] :: [.nm q]) ++ cmm [[.nm a], [.nm b]] ++ [.sg [41]])) (eOp 20 [eOp 10 [eNm x, eIn q], eIn a, eIn b]) (fun _ => True) := fun a b q =>
  fac_call (d := 39) (w := wIf) (x := [.wd (vN x)] ++ .sg [61, 61] :: [.nm q]) (xs := [[.nm a], [.nm b]]) (show (wIf, (20 : Int), 2) ∈ wrdO by decide) (wh_cmp [61, 61] 10 (nm1 _) fac_num (by decide) (by decide) (by decide) fun L => vN_not _ _) (.cons (wh_num a) (.cons (wh_num b) .nil))
 by_cases h1 : w = 1
 · rw [if_pos h1, if_pos h1]
   exact ⟨_, rfl, wh0 (ifx 2 1 1) fun _ => rfl⟩
 rw [if_neg h1, if_neg h1, if_pos (by omega)]
 refine ⟨_, rfl, ?_⟩
 exact wh_sum [43] 8 (la := .wd wMax :: .sg [40] :: ([.wd (vN x)] ++ cmm [[.nm 0]] ++ [.sg [41]])) (rq1 (fac_call (op := 19) (d := 39) (show (wMax, (19 : Int), 1) ∈ wrdO by decide) (wh_name _) (.cons (wh_num 0) .nil))) (rq1 (ifx 0 1 2)) (by decide) (by decide) (fun _ => rfl)
theorem deal_su {i x q w s p : Nat} {y : StageP} (hs : s < 3) (hy : y = { zStage with lb := sN i }) (h : Sta c 40 r (tks (dealPx x q w s p) ++ L)) :
 Sta c 40 (dealR c (orT c) y r).2 L ∧ (dealR c (orT c) y r).1.er = (stPp i (.deal x q w s p)).er := by
 have h : Sta c 40 r (.wd kwD :: .wd (vN x) :: .wd kwI :: .nm (loV q) :: .sg [46, 46] :: .nm (hiV q) :: (tks (wgPx w x) ++ (tks (seePx s p) ++ .sg [59] :: L))) := by
  unfold dealPx at h; simpa [tks, tks_app, pnl] using h
 unfold dealR
 simp only
 have g1 := (h.take (s := [100, 101, 97, 108]) rfl).2
 obtain ⟨g2, g3⟩ := g1.word (vN_res x)
 rw [g2]
 simp only
 generalize nextR (takeR c [100, 101, 97, 108] r).2 = r1 at g3 ⊢
 have g4 := g3.t2 (s := [105, 110]) rfl
 obtain ⟨g5, g6⟩ := g4.numb
 rw [g5]
 simp only
 have g7 := g6.t2 (s := [46, 46]) rfl
 obtain ⟨g8, g9⟩ := g7.numb
 rw [g8]
 simp only
 generalize nextR (t2 c [46, 46] (nextR (t2 c [105, 110] r1))) = r2 at g9 ⊢
 have hst : ∀ X, stpE (tks (seePx s p) ++ .sg [59] :: X) ∧ pk (tks (seePx s p) ++ .sg [59] :: X) kwW = false := by
  intro X
  unfold seePx
  by_cases h0 : s = 0
  · rw [if_pos h0]; exact ⟨stp_of (s := kwS) (by decide) (.inr rfl) _, rfl⟩
  rw [if_neg h0]
  by_cases h1 : s = 1
  · rw [if_pos h1]; exact ⟨stp_of (s := kwS) (by decide) (.inr rfl) _, rfl⟩
  rw [if_neg h1]
  exact ⟨stp_of (s := [59]) (by decide) (.inl rfl) _, rfl⟩
 have k12 : Sta c 40 (optR c (orT c) [119, 101, 105, 103, 104, 116] r2).2 (tks (seePx s p) ++ .sg [59] :: L) ∧ Ex.erL (optR c (orT c) [119, 101, 105, 103, 104, 116] r2).1 = Ex.erL (wgE w x) := by
  unfold optR
  by_cases hw : w < 3
  · obtain ⟨e, he, hwh⟩ := wg_su (c := c) (x := x) hw
    have g9 : Sta c 40 r2 (.wd kwW :: (tks (wgX w x) ++ (tks (seePx s p) ++ .sg [59] :: L))) := by
     unfold wgPx at g9; rw [if_pos hw] at g9; exact g9
    rw [if_pos (by rw [g9.peek]; rfl)]
    obtain ⟨m1, m2⟩ := or_su hwh (g9.t2 (s := [119, 101, 105, 103, 104, 116]) rfl) (hst _).1
    exact ⟨m1, by simp only [Ex.erL, he, m2]⟩
  · have g9 : Sta c 40 r2 (tks (seePx s p) ++ .sg [59] :: L) := by
     unfold wgPx at g9; rw [if_neg hw] at g9; exact g9
    have e : wgE w x = [] := by unfold wgE; rw [if_neg (by omega), if_neg (by omega), if_neg (by omega)]
    rw [if_neg (by rw [g9.peek]; exact fun h => by rw [show pk _ [119, 101, 105, 103, 104, 116] = false from (hst _).2] at h; cases h), e]
    exact ⟨g9, rfl⟩
 obtain ⟨k1, k2⟩ := k12
 generalize optR c (orT c) [119, 101, 105, 103, 104, 116] r2 = o at k1 k2 ⊢
 have k34 : Sta c 40 (seenR c o.2).2 (.sg [59] :: L) ∧ (seenR c o.2).1 = (decide (s = 0), if s = 1 then [(p : Int)] else []) := by
  unfold seenR
  by_cases h0 : s = 0
  · subst h0
    have h : Sta c 40 o.2 (.wd kwS :: .wd kwB :: .wd kwA :: .sg [59] :: L) := k1
    have h2 := (h.t2 (s := [115, 101, 101, 110]) rfl).t2 (s := [98, 121]) rfl
    rw [if_pos (by rw [h.peek]; rfl)]
    simp only
    rw [if_pos (by rw [h2.peek]; rfl)]
    exact ⟨h2.t2 rfl, rfl⟩
  by_cases h1 : s = 1
  · subst h1
    have h : Sta c 40 o.2 (.wd kwS :: .wd kwB :: .nm p :: .sg [59] :: L) := k1
    have h2 := (h.t2 (s := [115, 101, 101, 110]) rfl).t2 (s := [98, 121]) rfl
    rw [if_pos (by rw [h.peek]; rfl)]
    simp only
    rw [if_neg (by rw [h2.peek]; exact fun h => by cases h)]
    obtain ⟨g1, g2⟩ := h2.numb
    rw [g1]
    simp only
    have hpos : 0 < c.ts.length := by have := g2.len; simp at this; omega
    obtain ⟨n, hn⟩ : ∃ n, c.ts.length = n + 1 := ⟨c.ts.length - 1, by omega⟩
    rw [hn, seenL, if_neg (by rw [g2.peek]; exact fun h => by cases h)]
    exact ⟨g2, rfl⟩
  have h2 : s = 2 := by omega
  subst h2
  have h : Sta c 40 o.2 (.sg [59] :: L) := k1
  rw [if_neg (by rw [h.peek]; exact fun h => by cases h)]
  exact ⟨h, rfl⟩
 obtain ⟨k3, k4⟩ := k34
 refine ⟨k3.t2 rfl, ?_⟩
 unfold StageP.er
 simp only [hy, zStage, k2, k4, stPp]
theorem lab_su {i : Nat} (h : Sta c 40 r (.wd (sN i) :: .sg [58] :: L)) : (labelR c r).1 = sN i ∧ Sta c 40 (labelR c r).2 L := by
 unfold labelR
 have hr := sN_res i
 rw [if_pos (by rw [h.free]; simp [fre, hr])]
 obtain ⟨g1, g2⟩ := h.word hr
 rw [g1]
 exact ⟨rfl, g2.t2 rfl⟩
theorem stage_su {pl v n i : Nat} {g : GS} (hg : g.Wf pl v n i) (h : Sta c 40 r (.wd (sN i) :: .sg [58] :: (tks (stPx g) ++ L))) : Sta c 40 (stageR c (orT c) r).2 L ∧ (stageR c (orT c) r).1.er = (stPp i g).er := by
 obtain ⟨l1, l2⟩ := lab_su h
 unfold stageR
 simp only
 rw [l1]
 cases g with
 | deal x q w s p =>
  rw [if_pos (by rw [l2.peek]; rfl)]
  exact deal_su hg.2.2.2.1 rfl l2
 | turn w p acts =>
  rw [if_neg (by rw [l2.peek]; exact fun h => by cases h), if_pos (by rw [l2.peek]; rfl)]
  exact turn_su rfl hg.2.2.1 hg.2.2.2.1 (fun a ha => (hg.2.2.2.2 a ha).len) l2
theorem pays_su : ∀ (ms : List GX) (n : Nat) (acc : List Ex) (r : Rd), ms.length ≤ n -> acc.length + ms.length < 32 -> Sta c 40 r (tks (paysPx true ms) ++ .sg [59] :: L) →
 Sta c 40 (exprsL c (orT c) n acc r).2 (.sg [59] :: L) ∧ ∃ l, (exprsL c (orT c) n acc r).1 = acc ++ l ∧ Ex.erL l = Ex.erL (ms.map exE)
 | [], n, acc, r, hn, ha, h => by
  have h : Sta c 40 r (.sg [59] :: L) := h
  cases n with
  | zero => exact ⟨h, [], by simp [exprsL], rfl⟩
  | succ n =>
   rw [exprsL, if_neg (by rw [h.peek]; exact fun h => by cases h)]
   exact ⟨h, [], by simp, rfl⟩
 | m :: ms, n, acc, r, hn, ha, h => by
  have h : Sta c 40 r (.sg [44] :: (tks (exPc m) ++ (tks (paysPx true ms) ++ .sg [59] :: L))) := by simpa [paysPx, tks, tks_app] using h
  simp only [List.length_cons] at hn ha
  cases n with
  | zero => omega
  | succ n =>
   rw [exprsL, if_pos (by rw [h.peek]; rfl)]
   simp only
   rw [if_neg (by omega)]
   obtain ⟨g1, g2⟩ := or_su (ex_wh m) (h.t2 (s := [44]) rfl) (by
    cases ms with
    | nil => exact stp_of (s := [59]) (by decide) (.inl rfl) _
    | cons y ys => exact stp_of (s := [44]) (by decide) (.inl rfl) _)
   obtain ⟨g3, l, g4, g5⟩ := pays_su ms n (acc ++ [(orT c (t2 c [44] r)).1]) _ (by omega) (by simp; omega) g1
   exact ⟨g3, (orT c (t2 c [44] r)).1 :: l, by rw [g4]; simp, by simp only [List.map_cons, Ex.erL, g2, g5]⟩
theorem pays_ln : ∀ ms : List GX, ms.length ≤ (tks (paysPx true ms)).length
 | [] => by simp
 | m :: ms => by have := pays_ln ms; simp [paysPx, tks, tks_app]; omega
theorem end_su {n : Nat} {ms : List GX} (h1 : 1 ≤ ms.length) (h3 : ms.length ≤ 3) (h : Sta c 40 r (.wd (sN n) :: .sg [58] :: .wd kwE :: .sg [123] :: .wd kwP :: (tks (paysPx false ms) ++ .sg [59] :: .sg [125] :: L))) :
 Sta c 40 (stageR c (orT c) r).2 L ∧ (stageR c (orT c) r).1.er = (endPp n ms).er := by
 obtain ⟨l1, l2⟩ := lab_su h
 obtain ⟨m, rest, rfl⟩ : ∃ m rest, ms = m :: rest := by
  cases ms with
  | nil => simp at h1
  | cons m rest => exact ⟨m, rest, rfl⟩
 simp only [List.length_cons] at h3
 unfold stageR
 simp only
 rw [l1, if_neg (by rw [l2.peek]; exact fun h => by cases h), if_neg (by rw [l2.peek]; exact fun h => by cases h)]
 have g1 := (l2.take (s := [101, 110, 100]) rfl).2
 have g2 := (g1.t2 (s := [123]) rfl).t2 (s := [112, 97, 121]) rfl
 generalize t2 c [112, 97, 121] (t2 c [123] (takeR c [101, 110, 100] (labelR c r).2).2) = r1 at g2 ⊢
 have g2 : Sta c 40 r1 (tks (exPc m) ++ (tks (paysPx true rest) ++ .sg [59] :: .sg [125] :: L)) := by simpa [paysPx, tks_app] using g2
 unfold exprsR
 obtain ⟨g3, g4⟩ := or_su (ex_wh m) g2 (by
  cases rest with
  | nil => exact stp_of (s := [59]) (by decide) (.inl rfl) _
  | cons y ys => exact stp_of (s := [44]) (by decide) (.inl rfl) _)
 have hle := g3.len
 have hal := pays_ln rest
 rw [List.length_append] at hle
 obtain ⟨g5, l, g6, g7⟩ := pays_su rest c.ts.length [(orT c r1).1] _ (by omega) (by simp; omega) g3
 refine ⟨(g5.t2 (s := [59]) rfl).t2 rfl, ?_⟩
 unfold StageP.er
 simp only [zStage, endPp, g6, List.cons_append, List.nil_append, List.map_cons, List.map_nil, Ex.erL, g4, g7]
end
end Go.Proofs.YthmdmnfojbnobaaGreatDoor
namespace Go.Proofs.YthmdmnfojbnobaaGreatDoor
open Go.Ab
section
variable {c : Cx} {r : Rd} {L : List TK}
theorem var_su {i k : Nat} (hk : k < 4) {acc : List VarP} (ha : acc.length < 40) (h : Sta c 40 r (.wd kwV :: .wd (vN i) :: .sg [61] :: (tks (iniX k) ++ .sg [59] :: L))) :
 Sta c 40 (varR c acc r).2 L ∧ (varR c acc r).1.er = ⟨vN i, iniV k, 0⟩ := by
 unfold varR
 simp only
 have h1 := h.t2 (s := [118, 97, 114]) rfl
 generalize t2 c [118, 97, 114] r = r0 at h1 ⊢
 rw [if_neg (by omega)]
 obtain ⟨g1, g2⟩ := h1.word (vN_res i)
 rw [g1]
 simp only
 have g3 := g2.t2 (s := [61]) rfl
 generalize t2 c [61] (nextR r0) = r1 at g3 ⊢
 have pos : ∀ n : Nat, n ≤ 9 -> iniX k = [pn n] -> iniV k = n -> Sta c 40 (t2 c [59] (nmR c (flagR c [45] r1).2).2) L ∧ VarP.er ⟨vN i, IntKind.i64.wrap ((if (flagR c [45] r1).1 = true then -1 else 1) * (nmR c (flagR c [45] r1).2).1), hereR c r0⟩ = ⟨vN i, iniV k, 0⟩ := by
  intro n hn e1 e2
  have g3 : Sta c 40 r1 (.nm n :: .sg [59] :: L) := by rw [e1] at g3; exact g3
  have e : flagR c [45] r1 = (false, r1) := by unfold flagR; rw [if_neg (by rw [g3.peek]; exact fun h => by cases h)]
  rw [e]
  obtain ⟨g5, g6⟩ := g3.numb
  rw [g5]
  refine ⟨g6.t2 rfl, ?_⟩
  have w : IntKind.i64.wrap (1 * (n : Int)) = n := by rw [wrap_id (by omega) (by omega)]; omega
  unfold VarP.er
  simp only [Bool.false_eq_true, if_false, w, e2]
 match k, hk with
 | 0, _ => exact pos 0 (by decide) rfl rfl
 | 1, _ => exact pos 1 (by decide) rfl rfl
 | 3, _ => exact pos 2 (by decide) rfl rfl
 | 2, _ =>
  have g3 : Sta c 40 r1 (.sg [45] :: .nm 1 :: .sg [59] :: L) := g3
  have g4 := g3.t2 (s := [45]) rfl
  have e : flagR c [45] r1 = (true, t2 c [45] r1) := by unfold flagR; rw [if_pos (by rw [g3.peek]; rfl)]
  rw [e]
  obtain ⟨g5, g6⟩ := g4.numb
  simp only
  rw [g5]
  exact ⟨g6.t2 rfl, rfl⟩
theorem vars_su : ∀ (vs : List Nat) (i n : Nat) (acc : List VarP) (r : Rd), (∀ k ∈ vs, k < 4) -> vs.length ≤ n -> acc.length + vs.length < 40 -> pk L kwV = false -> Sta c 40 r (tks (iniPx i vs) ++ L) →
 Sta c 40 (varsL c n acc r).2 L ∧ ∃ l, (varsL c n acc r).1 = acc ++ l ∧ l.map VarP.er = varsPp i vs
 | [], i, n, acc, r, hv, hn, ha, hL, h => by
  have h : Sta c 40 r L := h
  cases n with
  | zero => exact ⟨h, [], by simp [varsL], rfl⟩
  | succ n =>
   rw [varsL, if_neg (by rw [h.peek]; exact fun h => by rw [show pk L [118, 97, 114] = false from hL] at h; cases h)]
   exact ⟨h, [], by simp, rfl⟩
 | v :: vs, i, n, acc, r, hv, hn, ha, hL, h => by
  have h : Sta c 40 r (.wd kwV :: .wd (vN i) :: .sg [61] :: (tks (iniX v) ++ .sg [59] :: (tks (iniPx (i + 1) vs) ++ L))) := by
   simpa [iniPx, tks, tks_app, pnl] using h
  simp only [List.length_cons] at hn ha
  cases n with
  | zero => omega
  | succ n =>
   rw [varsL, if_pos (by rw [h.peek]; rfl)]
   obtain ⟨g1, g2⟩ := var_su (acc := acc) (hv v (by simp)) (by omega) h
   obtain ⟨g3, l, g4, g5⟩ := vars_su vs (i + 1) n (acc ++ [(varR c acc r).1]) _ (fun k hk => hv k (by simp [hk])) (by omega) (by simp; omega) hL g1
   exact ⟨g3, (varR c acc r).1 :: l, by rw [g4]; simp, by simp only [List.map_cons, g2, g5, varsPp]⟩
theorem full_no {acc : List StageP} (h : acc.length < 100) : fullR c acc r = r := by
 unfold fullR
 rw [if_neg (by omega)]
theorem stages_su {pl v n : Nat} {ms : List GX} {N : Nat} (h1 : 1 ≤ ms.length) (h3 : ms.length ≤ 3) : ∀ (ss : List GS) (i m : Nat) (acc : List StageP) (r : Rd), stsWf pl v n i ss -> ss.length + 1 < m -> acc.length + ss.length < 50 →
   Sta c 40 r (tks (stsPx i ss) ++ (.wd (sN N) :: .sg [58] :: .wd kwE :: .sg [123] :: .wd kwP :: (tks (paysPx false ms) ++ .sg [59] :: .sg [125] :: []))) →
   (stagesL c (orT c) m acc r).2.e = 0 ∧ ∃ l, (stagesL c (orT c) m acc r).1 = acc ++ l ∧ l.map StageP.er = (stsPp i ss ++ [endPp N ms]).map StageP.er
 | [], i, m, acc, r, _, hm, ha, h => by
   have h : Sta c 40 r (.wd (sN N) :: .sg [58] :: .wd kwE :: .sg [123] :: .wd kwP :: (tks (paysPx false ms) ++ .sg [59] :: .sg [125] :: [])) := h
   cases m with
   | zero => simp at hm
   | succ m =>
     cases m with
     | zero => simp at hm
     | succ m =>
       rw [stagesL, if_pos ⟨h.e, .inr h.rem.lt.1⟩, full_no (by simp at ha; omega)]
       obtain ⟨g1, g2⟩ := end_su h1 h3 h
       have := g1.rem.end
       rw [stagesL, if_neg (by rintro ⟨_, h2 | h2⟩; · simp at h2
                               · omega)]
       exact ⟨g1.e, [(stageR c (orT c) r).1], rfl, by simp only [List.map_cons, List.map_nil, stsPp, List.nil_append, g2]⟩
 | s :: ss, i, m, acc, r, hw, hm, ha, h => by
   have h : Sta c 40 r (.wd (sN i) :: .sg [58] :: (tks (stPx s) ++ (tks (stsPx (i + 1) ss) ++ (.wd (sN N) :: .sg [58] :: .wd kwE :: .sg [123] :: .wd kwP :: (tks (paysPx false ms) ++ .sg [59] :: .sg [125] :: []))))) := by
     simpa [stsPx, tks, tks_app] using h
   simp only [List.length_cons] at hm ha
   cases m with
   | zero => simp at hm
   | succ m =>
     rw [stagesL, if_pos ⟨h.e, .inr h.rem.lt.1⟩, full_no (by omega)]
     obtain ⟨g1, g2⟩ := stage_su hw.1 h
     obtain ⟨g3, l, g4, g5⟩ := stages_su h1 h3 ss (i + 1) m (acc ++ [(stageR c (orT c) r).1]) _ hw.2 (by omega) (by simp; omega) g1
     exact ⟨g3, (stageR c (orT c) r).1 :: l, by rw [g4]; simp, by simp only [stsPp, List.cons_append, List.map_cons, g2, g5]⟩
end
theorem sts_ln : ∀ (ss : List GS) (i : Nat), ss.length ≤ (tks (stsPx i ss)).length
 | [], _ => by simp
 | s :: ss, i => by have := sts_ln ss (i + 1); simp [stsPx, tks, tks_app]; omega
theorem ini_ln : ∀ (ss : List Nat) (i : Nat), ss.length ≤ (tks (iniPx i ss)).length
 | [], _ => by simp
 | s :: ss, i => by have := ini_ln ss (i + 1); simp [iniPx, tks, tks_app, pnl]; omega
theorem sts_head {ss : List GS} {i : Nat} {N : Nat} {X : List TK} : pk (tks (stsPx i ss) ++ .wd (sN N) :: X) kwV = false := by
 have h : ∀ (i : Nat) (Y : List TK), pk (.wd (sN i) :: Y) kwV = false := by
  intro i Y
  have : sN i ≠ kwV := fun e => sN_res i (by rw [e]; decide)
  simp [pk, this]
 cases ss with
 | nil => exact h N X
 | cons s ss => exact h i _
theorem gen_read (l : List Int) : (parseR (genB (genC l))).2.1 = 0 ∧ (parseR (genB (genC l))).1.er = (genPp (genC l)).er := by
 have hw := gen_wf l
 obtain ⟨hsc, hA⟩ := gen_scan l
 unfold parseR
 rw [if_neg (fun h => h hsc)]
 generalize (scanG (genB (genC l))).1 = ts at *
 generalize (genB (genC l)).length = en at *
 generalize genC l = g at *
 have hst : Sta ⟨ts, en⟩ 40 ⟨0, 0, 0, 0⟩ (.wd kwG :: .wd (gN g.nm) :: .sg [59] :: .wd kwPl :: .nm g.pl :: .sg [59] :: (tks (iniPx 0 g.ini) ++ (tks (stsPx 0 g.stages) ++ (.wd (sN g.stages.length) :: .sg [58] :: .wd kwE :: .sg [123] :: .wd kwP :: (tks (paysPx false g.pays) ++ .sg [59] :: .sg [125] :: []))))) := by
  refine ⟨rfl, ?_, rfl, by decide⟩
  unfold Rem
  rw [List.drop_zero]
  unfold genPx at hA
  simpa [tks, tks_app, pnl] using hA
 unfold parseT
 simp only
 have g1 := hst.t2 (s := [103, 97, 109, 101]) rfl
 obtain ⟨g2, g3⟩ := g1.word (gN_res g.nm)
 rw [g2]
 simp only
 generalize nextR (t2 ⟨ts, en⟩ [103, 97, 109, 101] ⟨0, 0, 0, 0⟩) = r1 at g3 ⊢
 have g4 := (g3.t2 (s := [59]) rfl).t2 (s := [112, 108, 97, 121, 101, 114, 115]) rfl
 obtain ⟨g5, g6⟩ := g4.numb
 rw [g5]
 simp only
 generalize nextR (t2 ⟨ts, en⟩ [112, 108, 97, 121, 101, 114, 115] (t2 ⟨ts, en⟩ [59] r1)) = r2 at g6 ⊢
 have g7 := g6.t2 (s := [59]) rfl
 have hle := g7.len
 have l1 := ini_ln g.ini 0
 have l2 := sts_ln g.stages 0
 rw [List.length_append, List.length_append] at hle
 simp only [List.length_cons] at hle
 have h1 := hw.inl
 have h2 := hw.v3
 have h3 := hw.st4
 have h4 := hw.payl
 have h5 := hw.pl1
 have h6 := hw.pl3
 obtain ⟨k1, l, k2, k3⟩ := vars_su g.ini 0 ts.length [] _ hw.ini (by omega) (by simp; omega) sts_head g7
 obtain ⟨k4, l2, k5, k6⟩ := stages_su (by omega) (by omega) g.stages 0 (ts.length + 1) [] _ hw.sts (by omega) (by simp; omega) k1
 rw [if_neg (fun h => h k4)]
 refine ⟨rfl, ?_⟩
 have hvE : (varsPp 0 g.ini).map VarP.er = varsPp 0 g.ini := by
  generalize 0 = i
  generalize g.ini = cs
  induction cs generalizing i with
  | nil => rfl
  | cons a r ih => simp only [varsPp, List.map_cons, ih]; rfl
 unfold RulesP.er
 simp only [k2, k5, List.nil_append, k3, k6, genPp, hvE]
end Go.Proofs.YthmdmnfojbnobaaGreatDoor
namespace Go.Proofs.YthmdmnfojbnobaaGreatDoor
open Go.Ab
end Go.Proofs.YthmdmnfojbnobaaGreatDoor
namespace Go.Proofs.YthmdmnfojbnobaaGreatDoor
open Go.Ab
def GdB (ps : List Pc) : Prop := ∀ b, good b -> good (ps ++ b)
theorem GdB.app {a b : List Pc} (ha : GdB a) (hb : GdB b) : GdB (a ++ b) := fun r h => by rw [List.append_assoc]; exact ha _ (hb r h)
theorem GdB.flat {α : Type} {f : α -> List Pc} : ∀ {l : List α}, (∀ x ∈ l, GdB (f x)) -> GdB (l.flatMap f)
 | [], _ => fun b h => h
 | x :: r, h => by
  rw [List.flatMap_cons]
  exact (h x (by simp)).app (GdB.flat fun y hy => h y (by simp [hy]))
end Go.Proofs.YthmdmnfojbnobaaGreatDoor
namespace Go.Proofs.YthmdmnfojbnobaaGreatDoor
open Go.Ab
end Go.Proofs.YthmdmnfojbnobaaGreatDoor
namespace Go.Proofs.YthmdmnfojbnobaaGreatDoor
open Go.Ab
end Go.Proofs.YthmdmnfojbnobaaGreatDoor
namespace Go.Proofs.YthmdmnfojbnobaaGreatDoor
open Go.Ab
end Go.Proofs.YthmdmnfojbnobaaGreatDoor
namespace Go.Proofs.YthmdmnfojbnobaaGreatDoor
open Go.Ab
end Go.Proofs.YthmdmnfojbnobaaGreatDoor
namespace Go.Proofs.YthmdmnfojbnobaaGreatDoor
open Go.Ab
end Go.Proofs.YthmdmnfojbnobaaGreatDoor
namespace Go.Proofs.YthmdmnfojbnobaaGreatDoor
open Go.Ab
end Go.Proofs.YthmdmnfojbnobaaGreatDoor
namespace Go.Proofs.YthmdmnfojbnobaaGreatDoor
open Go.Ab
end Go.Proofs.YthmdmnfojbnobaaGreatDoor
namespace Go.Proofs.YthmdmnfojbnobaaGreatDoor
open Go.Ab
end Go.Proofs.YthmdmnfojbnobaaGreatDoor
namespace Go.Proofs.YthmdmnfojbnobaaGreatDoor
open Go.Ab
end Go.Proofs.YthmdmnfojbnobaaGreatDoor
namespace Go.Proofs.YthmdmnfojbnobaaGreatDoor
open Go.Ab
end Go.Proofs.YthmdmnfojbnobaaGreatDoor
namespace Go.Proofs.YthmdmnfojbnobaaGreatDoor
open Go.Ab
end Go.Proofs.YthmdmnfojbnobaaGreatDoor
namespace Go.Proofs.YthmdmnfojbnobaaGreatDoor
open Go.Ab
theorem erL_len : ∀ l : List Ex, (Ex.erL l).length = l.length
 | [] => rfl
 | e :: r => by simp [Ex.erL, erL_len r]
theorem chk_er (own : Int) : ∀ (ts ks : List Int) (l : List Ex), (chkT own ts ks (Ex.erL l)).1 = (chkT own ts ks l).1 ∧ (chkT own ts ks (Ex.erL l)).2.1 = (chkT own ts ks l).2.1
 | t :: ts, k :: ks, e :: l => by
  rw [Ex.erL, chkT, chkT]
  split
  · exact ⟨rfl, rfl⟩
  · exact chk_er own ts ks l
 | [], _, _ => by simp [chkT]
 | _ :: _, [], _ => by simp [chkT]
 | _ :: _, _ :: _, [] => by simp [chkT, Ex.erL]
def SameK : Except (Int × Int) (List Int) -> Except (Int × Int) (List Int) -> Prop
 | .error f, .error g => f.1 = g.1
 | .ok a, .ok b => a = b
 | _, _ => False
mutual
theorem tyE_er (vs : List (List UInt8)) : ∀ e : Ex, (tyE vs e.er).1 = (tyE vs e).1 ∧ (tyE vs e.er).2.1 = (tyE vs e).2.1
 | .mk op n nm l p => by
  have hl := tyL_er vs l
  rw [Ex.er, tyE, tyE, erL_len]
  cases ho : opOf op with
  | none =>
   simp only
   split
   · split
     · exact ⟨rfl, rfl⟩
     · split <;> exact ⟨rfl, rfl⟩
   · exact ⟨rfl, rfl⟩
  | some o =>
   simp only
   split
   · exact ⟨rfl, rfl⟩
   · cases h1 : tyL vs l with
     | error f =>
      cases h2 : tyL vs (Ex.erL l) with
      | error g => rw [h1, h2] at hl; exact ⟨rfl, hl⟩
      | ok b => rw [h1, h2] at hl; exact hl.elim
     | ok a =>
      cases h2 : tyL vs (Ex.erL l) with
      | error g => rw [h1, h2] at hl; exact hl.elim
      | ok b =>
       rw [h1, h2] at hl
       have hl : b = a := hl
       subst hl
       exact chk_er _ _ _ _
theorem tyL_er (vs : List (List UInt8)) : ∀ l : List Ex, SameK (tyL vs (Ex.erL l)) (tyL vs l)
 | [] => by rw [Ex.erL, tyL]; rfl
 | e :: r => by
  obtain ⟨h1, h2⟩ := tyE_er vs e
  have h3 := tyL_er vs r
  rw [Ex.erL, tyL, tyL]
  by_cases he : (tyE vs e).2.1 = 0
  · rw [if_neg (by rw [h2]; exact fun h => h he), if_neg (fun h => h he)]
    cases q1 : tyL vs (Ex.erL r) with
    | error f =>
     cases q2 : tyL vs r with
     | error g => rw [q1, q2] at h3; exact h3
     | ok b => rw [q1, q2] at h3; exact h3.elim
    | ok a =>
     cases q2 : tyL vs r with
     | error g => rw [q1, q2] at h3; exact h3.elim
     | ok b =>
      rw [q1, q2] at h3
      have h3 : a = b := h3
      show _ :: _ = _ :: _
      rw [h1, h3]
  · rw [if_pos (by rw [h2]; exact he), if_pos he]
    exact h2
end
theorem ife {A A' B B' : Int × Int} (h : A.1 = A'.1) (hb : B.1 = B'.1) : (if A.1 ≠ 0 then A else B).1 = (if A'.1 ≠ 0 then A' else B').1 := by
 rw [h]
 split
 · exact h
 · exact hb
theorem itc {p : Prop} [Decidable p] {A A' B B' : Int × Int} (h : A.1 = A'.1) (hb : B.1 = B'.1) : (if p then A else B).1 = (if p then A' else B').1 := by
 split
 · exact h
 · exact hb
section
variable {vs : List (List UInt8)}
theorem wantF_er (e : Ex) (k : Int) : (wantF vs e.er k).1 = (wantF vs e k).1 := by
 obtain ⟨h1, h2⟩ := tyE_er vs e
 refine ife h2 ?_
 rw [h1]
 split <;> rfl
theorem wantL_er (k : Int) : ∀ l : List Ex, (wantL vs k (Ex.erL l)).1 = (wantL vs k l).1
 | [] => rfl
 | e :: r => by
  rw [Ex.erL, wantL, wantL]
  have h := wantF_er (vs := vs) e k
  by_cases he : (wantF vs e k).1 = 0
  · rw [if_neg (by rw [h]; exact fun h => h he), if_neg (fun h => h he)]
    exact wantL_er k r
  · rw [if_pos (by rw [h]; exact he), if_pos he]
    exact h
theorem seen_er (pl p p' : Int) : ∀ (q : Int) (l : List Int), (seenF pl p q l).1 = (seenF pl p' q l).1
 | _, [] => rfl
 | q, n :: r => by
  rw [seenF, seenF]
  split
  · rfl
  · split
    · rfl
    · exact seen_er pl p p' n r
theorem deal_er (pl : Int) (x : StageP) : (dealF vs pl x.er).1 = (dealF vs pl x).1 := by
 have h := wantL_er (vs := vs) 1 x.wt
 unfold dealF StageP.er
 simp only
 split
 · rfl
 · split
   · rfl
   · by_cases he : (wantL vs 1 x.wt).1 = 0
     · rw [if_neg (by rw [h]; exact fun h => h he), if_neg (fun h => h he)]
       exact seen_er ..
     · rw [if_pos (by rw [h]; exact he), if_pos he]
       exact h
theorem set_er : ∀ l : List SetP, (setF vs (l.map SetP.er)).1 = (setF vs l).1
 | [] => rfl
 | s :: r => by
  have h := wantF_er (vs := vs) s.e 1
  rw [List.map_cons, setF, setF]
  show (if s.nm ∉ vs then _ else if (wantF vs s.e.er 1).1 ≠ 0 then wantF vs s.e.er 1 else setF vs (r.map SetP.er)).1 = _
  split
  · rfl
  · by_cases he : (wantF vs s.e 1).1 = 0
    · rw [if_neg (by rw [h]; exact fun h => h he), if_neg (fun h => h he)]
      exact set_er r
    · rw [if_pos (by rw [h]; exact he), if_pos he]
      exact h
theorem find_er (s : List UInt8) : ∀ (i : Nat) (l : List StageP), findG s i (l.map StageP.er) = findG s i l
 | _, [] => rfl
 | i, x :: r => by
  rw [List.map_cons, findG, findG, find_er s (i + 1) r]
  rfl
theorem findF_er (l : List StageP) (s : List UInt8) : findF (l.map StageP.er) s = findF l s := find_er s 0 l
theorem act_er (stgs : List StageP) (i : Int) (a : ActP) : (actF vs (stgs.map StageP.er) i a.er).1 = (actF vs stgs i a).1 := by
 have h1 := wantL_er (vs := vs) 2 a.wh
 have h2 := set_er (vs := vs) a.sets
 show (if 1 < (Ex.erL a.wh).length then _ else _ : Int × Int).1 = _
 rw [erL_len]
 refine itc rfl (ife h1 (ife h2 ?_))
 unfold goF
 rw [findF_er]
 refine itc rfl (itc rfl (itc rfl rfl))
theorem acts_er (stgs : List StageP) (i : Int) : ∀ (l : List (List UInt8)) (as' : List ActP), (actsF vs (stgs.map StageP.er) i l (as'.map ActP.er)).1 = (actsF vs stgs i l as').1
 | _, [] => rfl
 | l, a :: r => by
  have h := act_er (vs := vs) stgs i a
  rw [List.map_cons, actsF, actsF]
  show (if a.nm ∈ l then _ else if (actF vs (stgs.map StageP.er) i a.er).1 ≠ 0 then actF vs (stgs.map StageP.er) i a.er else actsF vs (stgs.map StageP.er) i (addS l a.nm) (r.map ActP.er)).1 = _
  split
  · rfl
  · by_cases he : (actF vs stgs i a).1 = 0
    · rw [if_neg (by rw [h]; exact fun h => h he), if_neg (fun h => h he)]
      exact acts_er stgs i (addS l a.nm) r
    · rw [if_pos (by rw [h]; exact he), if_pos he]
      exact h
theorem turn_er (stgs : List StageP) (i : Int) (x : StageP) : (turnF vs (stgs.map StageP.er) i x.er).1 = (turnF vs stgs i x).1 := by
 have e1 : x.er.who = Ex.erL x.who := rfl
 have e2 : x.er.acts = x.acts.map ActP.er := rfl
 unfold turnF
 rw [e1, e2]
 cases x.who with
 | nil => rfl
 | cons e r =>
  rw [Ex.erL, List.length_map]
  exact ife (wantF_er e 1) (itc rfl (acts_er stgs i [] x.acts))
theorem stage_er (pl : Int) (stgs : List StageP) (i : Int) (x : StageP) : (stageF vs pl (stgs.map StageP.er) i x.er).1 = (stageF vs pl stgs i x).1 := by
 have h1 := deal_er (vs := vs) pl x
 have h2 := turn_er (vs := vs) stgs i x
 have h3 : (endF vs pl x.er).1 = (endF vs pl x).1 := by
  unfold endF StageP.er
  simp only [erL_len]
  split
  · rfl
  · exact wantL_er 1 x.pays
 have e1 : x.er.wt.length = x.wt.length := erL_len _
 have e2 : x.er.who.length = x.who.length := erL_len _
 have e3 : x.er.k = x.k := rfl
 unfold stageF
 rw [e1, e2, e3]
 split
 · rfl
 · split
   · exact h1
   · split
     · exact h2
     · split
       · exact h3
       · rfl
theorem stages_er (pl : Int) (stgs : List StageP) : ∀ (i : Nat) (l : List StageP), (stagesF vs pl (stgs.map StageP.er) i (l.map StageP.er)).1 = (stagesF vs pl stgs i l).1
 | _, [] => rfl
 | i, x :: r => by
  have h := stage_er (vs := vs) pl stgs i x
  rw [List.map_cons, stagesF, stagesF]
  by_cases he : (stageF vs pl stgs i x).1 = 0
  · rw [if_neg (by rw [h]; exact fun h => h he), if_neg (fun h => h he)]
    exact stages_er pl stgs (i + 1) r
  · rw [if_pos (by rw [h]; exact he), if_pos he]
    exact h
end
theorem names_er (r : RulesP) : namesOf r.er = namesOf r := by
 unfold namesOf RulesP.er
 simp only [List.map_map]
 rfl
theorem var_er : ∀ (l : List (List UInt8)) (vs : List VarP), (varF l (vs.map VarP.er)).1 = (varF l vs).1
 | _, [] => rfl
 | l, v :: r => by
  rw [List.map_cons, varF, varF]
  show (if v.n < -1000000000 ∨ 1000000000 < v.n then _ else if v.nm ∈ l then _ else varF (addS l v.nm) (r.map VarP.er)).1 = _
  split
  · rfl
  · split
    · rfl
    · exact var_er (addS l v.nm) r
theorem lab_er : ∀ (l : List (List UInt8)) (ss : List StageP), (labF l (ss.map StageP.er)).1 = (labF l ss).1
 | _, [] => rfl
 | l, x :: r => by
  rw [List.map_cons, labF, labF]
  show (if x.lb = [] then labF l (r.map StageP.er) else if x.lb ∈ l then _ else labF (addS l x.lb) (r.map StageP.er)).1 = _
  split
  · exact lab_er l r
  · split
    · rfl
    · exact lab_er (addS l x.lb) r
theorem last_er (ss : List StageP) : (lastF (ss.map StageP.er)).1 = (lastF ss).1 := by
 unfold lastF
 rw [List.getLast?_map]
 cases ss.getLast? with
 | none => rfl
 | some x =>
  show (if x.er.k ≠ 3 then _ else _ : Int × Int).1 = _
  have e3 : x.er.k = x.k := rfl
  simp only [e3]
  split <;> rfl
theorem check_er (r : RulesP) : (checkF r.er).1 = (checkF r).1 := by
 unfold checkF
 rw [names_er]
 have h1 : plF r.er = plF r := rfl
 have h2 : (varF [] r.er.vars).1 = (varF [] r.vars).1 := var_er [] r.vars
 have h3 : (labF [] r.er.stages).1 = (labF [] r.stages).1 := lab_er [] r.stages
 have h4 : (lastF r.er.stages).1 = (lastF r.stages).1 := last_er r.stages
 have h5 : (stagesF (namesOf r) r.er.pl r.er.stages 0 r.er.stages).1 = (stagesF (namesOf r) r.pl r.stages 0 r.stages).1 := stages_er r.pl r.stages 0 r.stages
 have key : ∀ a b : List (Int × Int), a.map (·.1) = b.map (·.1) -> (firstF a).1 = (firstF b).1 := by
  intro a
  induction a with
  | nil => intro b h; cases b with
   | nil => rfl
   | cons y b => simp at h
  | cons x a ih =>
   intro b h
   cases b with
   | nil => simp at h
   | cons y b =>
    simp only [List.map_cons, List.cons.injEq] at h
    rw [firstF, firstF]
    by_cases hx : x.1 = 0
    · rw [if_neg (fun h => h hx), if_neg (by rw [← h.1]; exact fun h => h hx)]
      exact ih b h.2
    · rw [if_pos hx, if_pos (by rw [← h.1]; exact hx)]
      exact h.1
 refine key _ _ ?_
 simp only [List.map_cons, List.map_nil, h1, h2, h3, h4, h5]
theorem tgt_er (l : List StageP) (i act : Int) : tgtF (l.map StageP.er) i act = tgtF l i act := by
 unfold tgtF
 rw [List.getElem?_map]
 split
 · rfl
 · cases l[i.toNat]? with
   | none => rfl
   | some x =>
    show actT (l.map StageP.er) i act x.er = actT l i act x
    unfold actT
    have e1 : x.er.k = x.k := rfl
    have e2 : x.er.acts = x.acts.map ActP.er := rfl
    rw [e1, e2, List.getElem?_map]
    split
    · rfl
    · cases x.acts[act.toNat]? with
      | none => rfl
      | some a =>
       show goT (l.map StageP.er) i a.er.go = goT l i a.go
       have e3 : a.er.go = a.go := rfl
       unfold goT
       rw [findF_er, e3]
mutual
theorem hgt_er : ∀ e : Ex, e.er.hgt = e.hgt
 | .mk op n nm l p => by rw [Ex.er, Ex.hgt, Ex.hgt, hgtL_er l]
theorem hgtL_er : ∀ l : List Ex, Ex.hgtL (Ex.erL l) = Ex.hgtL l
 | [] => rfl
 | e :: r => by rw [Ex.erL, Ex.hgtL, Ex.hgtL, hgt_er e, hgtL_er r]
end
theorem erL_map : ∀ l : List Ex, Ex.erL l = l.map Ex.er
 | [] => rfl
 | e :: r => by rw [Ex.erL, erL_map r]; rfl
theorem actOk_er {a : ActP} : a.er.Ok ↔ a.Ok := by
 constructor
 · rintro ⟨h1, h2, h3⟩
   unfold ActP.er at h1 h2 h3
   simp only [List.length_map] at h1
   refine ⟨h1, fun e he => ?_, fun s hs => ?_⟩
   · have := h2 e.er (by simp only [erL_map, List.mem_map]; exact ⟨e, he, rfl⟩)
     rwa [hgt_er] at this
   · have := h3 s.er (by simp only [List.mem_map]; exact ⟨s, hs, rfl⟩)
     have e : s.er.e = s.e.er := rfl
     rwa [e, hgt_er] at this
 · rintro ⟨h1, h2, h3⟩
   refine ⟨?_, ?_, ?_⟩
   · show (a.sets.map SetP.er).length < _
     rw [List.length_map]; exact h1
   · intro e he
     have he : e ∈ Ex.erL a.wh := he
     rw [erL_map, List.mem_map] at he
     obtain ⟨x, hx, rfl⟩ := he
     rw [hgt_er]; exact h2 x hx
   · intro s hs
     have hs : s ∈ a.sets.map SetP.er := hs
     rw [List.mem_map] at hs
     obtain ⟨x, hx, rfl⟩ := hs
     have e : x.er.e = x.e.er := rfl
     rw [e, hgt_er]; exact h3 x hx
theorem stgOk_er {x : StageP} : x.er.Ok ↔ x.Ok := by
 have key : ∀ l : List Ex, (∀ e ∈ Ex.erL l, e.hgt ≤ 100000) ↔ (∀ e ∈ l, e.hgt ≤ 100000) := by
  intro l
  rw [erL_map]
  constructor
  · intro h e he
    have := h e.er (List.mem_map_of_mem he)
    rwa [hgt_er] at this
  · intro h e he
    rw [List.mem_map] at he
    obtain ⟨y, hy, rfl⟩ := he
    rw [hgt_er]; exact h y hy
 constructor
 · rintro ⟨h1, h2, h3, h4, h5, h6, h7⟩
   refine ⟨(key _).1 h1, h2, (key _).1 h3, ?_, ?_, ?_, (key _).1 h7⟩
   · have : (x.acts.map ActP.er).length < 4611686018427387904 := h4
     rwa [List.length_map] at this
   · intro a ha
     exact actOk_er.1 (h5 a.er (List.mem_map_of_mem (f := ActP.er) ha))
   · have : (Ex.erL x.pays).length < 4611686018427387904 := h6
     rwa [erL_len] at this
 · rintro ⟨h1, h2, h3, h4, h5, h6, h7⟩
   refine ⟨(key _).2 h1, h2, (key _).2 h3, ?_, ?_, ?_, (key _).2 h7⟩
   · show (x.acts.map ActP.er).length < _
     rwa [List.length_map]
   · intro a ha
     have ha : a ∈ x.acts.map ActP.er := ha
     rw [List.mem_map] at ha
     obtain ⟨y, hy, rfl⟩ := ha
     exact actOk_er.2 (h5 y hy)
   · show (Ex.erL x.pays).length < _
     rwa [erL_len]
theorem ok_er {r : RulesP} : r.er.Ok ↔ r.Ok := by
 constructor
 · rintro ⟨h1, h2, h3⟩
   refine ⟨?_, ?_, fun x hx => stgOk_er.1 (h3 x.er (List.mem_map_of_mem (f := StageP.er) hx))⟩
   · have : (r.vars.map VarP.er).length < 1099511627776 := h1
     rwa [List.length_map] at this
   · have : (r.stages.map StageP.er).length < 4611686018427387904 := h2
     rwa [List.length_map] at this
 · rintro ⟨h1, h2, h3⟩
   refine ⟨?_, ?_, ?_⟩
   · show (r.vars.map VarP.er).length < _
     rwa [List.length_map]
   · show (r.stages.map StageP.er).length < _
     rwa [List.length_map]
   · intro x hx
     have hx : x ∈ r.stages.map StageP.er := hx
     rw [List.mem_map] at hx
     obtain ⟨y, hy, rfl⟩ := hx
     exact stgOk_er.2 (h3 y hy)
end Go.Proofs.YthmdmnfojbnobaaGreatDoor
namespace Go.Proofs.YthmdmnfojbnobaaGreatDoor
open Go.Ab
def nmL (v : Nat) : List (List UInt8) := (List.range v).map vN
theorem names_gen {g : GR} (h : g.Wf) : namesOf (genPp g) = nmL g.v := by
 have key : ∀ (cs : List Nat) (i : Nat), (varsPp i cs).map (·.nm) = (List.range' i cs.length).map vN := by
  intro cs
  induction cs with
  | nil => intro i; rfl
  | cons c r ih => intro i; simp only [varsPp, List.map_cons, List.length_cons, List.range'_succ, ih]
 unfold namesOf genPp nmL
 rw [List.range_eq_range', <- h.inl]
 exact key g.ini 0
def allV (n : Nat) (f : Nat -> GX -> Bool) : Bool := [1, 2, 3].all fun v => allG n v (f v)
theorem allV_of {n : Nat} {f : Nat -> GX -> Bool} (h : allV n f = true) {v : Nat} (h1 : 1 ≤ v) (h3 : v ≤ 3) {g : GX} (hg : g.Wf v n) : f v g = true := by
 have := List.all_eq_true.1 h v (by simp; omega)
 exact allG_of this (Nat.le_refl _) hg
theorem want_q : allV 8 (fun v g => decide (wantF (nmL v) (exE g) 1 = (0, 0))) = true := by kernel_rfl
theorem wantc_q : allV 4 (fun v g => decide (wantF (nmL v) (cdE g) 2 = (0, 0)) && (List.range 3).all fun p => decide (wantF (nmL v) (whoE (some g) p) 1 = (0, 0))) = true := by kernel_rfl
theorem wantw_q : ([1, 2, 3].all fun v => (List.range v).all fun x => (List.range 4).all fun w => decide (wantL (nmL v) 1 (wgE w x) = (0, 0)) && decide ((wgE w x).length ≤ 1)) = true := by kernel_rfl
theorem wantp_q : ([1, 2, 3].all fun v => (List.range 3).all fun p => decide (wantF (nmL v) (whoE none p) 1 = (0, 0))) = true := by kernel_rfl
section
variable {v : Nat} (h1 : 1 ≤ v) (h3 : v ≤ 3)
include h1 h3
theorem want_ex {g : GX} (hg : g.Wf v 8) : wantF (nmL v) (exE g) 1 = (0, 0) := of_decide_eq_true (allV_of want_q h1 h3 hg)
theorem want_cd {g : GX} (hg : g.Wf v 4) : wantF (nmL v) (cdE g) 2 = (0, 0) := by
 have := allV_of wantc_q h1 h3 hg
 rw [Bool.and_eq_true] at this
 exact of_decide_eq_true this.1
theorem want_who {w : Option GX} {p : Nat} (hp : p < 3) (hw : ∀ c, w = some c -> c.Wf v 4) : wantF (nmL v) (whoE w p) 1 = (0, 0) := by
 cases w with
 | none =>
  have := List.all_eq_true.1 wantp_q v (by simp; omega)
  exact of_decide_eq_true (List.all_eq_true.1 this p (List.mem_range.2 hp))
 | some g =>
  have := allV_of wantc_q h1 h3 (hw g rfl)
  rw [Bool.and_eq_true] at this
  exact of_decide_eq_true (List.all_eq_true.1 this.2 p (List.mem_range.2 hp))
theorem want_wg {w x : Nat} (hx : x < v) (hw : w < 4) : wantL (nmL v) 1 (wgE w x) = (0, 0) ∧ (wgE w x).length ≤ 1 := by
 have := List.all_eq_true.1 wantw_q v (by simp; omega)
 have := List.all_eq_true.1 (List.all_eq_true.1 this x (List.mem_range.2 hx)) w (List.mem_range.2 hw)
 rw [Bool.and_eq_true] at this
 exact ⟨of_decide_eq_true this.1, of_decide_eq_true this.2⟩
theorem mem_nm {x : Nat} (hx : x < v) : vN x ∈ nmL v := List.mem_map.2 ⟨x, List.mem_range.2 hx, rfl⟩
theorem want_pays : ∀ (l : List GX), (∀ x ∈ l, x.Wf v 8) -> wantL (nmL v) 1 (l.map exE) = (0, 0)
 | [], _ => rfl
 | g :: r, h => by
  rw [List.map_cons, wantL, want_ex h1 h3 (h g (by simp)), if_neg (by decide)]
  exact want_pays r fun x hx => h x (by simp [hx])
theorem sets_0 : ∀ (l : List (Nat × GX)), (∀ s ∈ l, s.1 < v ∧ s.2.Wf v 8) -> setF (nmL v) (l.map setPp) = (0, 0)
 | [], _ => rfl
 | s :: r, h => by
  have hs := h s (by simp)
  rw [List.map_cons, setF, if_neg (fun hh => hh (mem_nm h1 h3 hs.1))]
  simp only [setPp, want_ex h1 h3 hs.2]
  rw [if_neg (by decide)]
  exact sets_0 r fun x hx => h x (by simp [hx])
end
theorem dg_inj {a b : Nat} (ha : a ≤ 9) (hb : b ≤ 9) (h : dg a = dg b) : a = b := by
 have q : upto 10 (fun a => (List.range 10).all fun b => !decide (dg a = dg b) || decide (a = b)) = true := by kernel_rfl
 have q2 := List.all_eq_true.1 (upto_of q (show a < 10 by omega)) b (List.mem_range.2 (by omega))
 simp only [Bool.or_eq_true, Bool.not_eq_true', decide_eq_false_iff_not, decide_eq_true_eq] at q2
 rcases q2 with q2 | q2
 · exact absurd h q2
 · exact q2
theorem sN_inj {a b : Nat} (ha : a ≤ 9) (hb : b ≤ 9) (h : sN a = sN b) : a = b := dg_inj ha hb (List.append_cancel_left h)
theorem vN_inj {a b : Nat} (ha : a ≤ 9) (hb : b ≤ 9) (h : vN a = vN b) : a = b := dg_inj ha hb (List.append_cancel_left h)
theorem aN_inj {a b : Nat} (ha : a ≤ 9) (hb : b ≤ 9) (h : aN a = aN b) : a = b := by
 have q : upto 10 (fun a => (List.range 10).all fun b => !decide (aN a = aN b) || decide (a = b)) = true := by kernel_rfl
 have q2 := List.all_eq_true.1 (upto_of q (show a < 10 by omega)) b (List.mem_range.2 (by omega))
 simp only [Bool.or_eq_true, Bool.not_eq_true', decide_eq_false_iff_not, decide_eq_true_eq] at q2
 rcases q2 with q2 | q2
 · exact absurd h q2
 · exact q2
theorem mem_addS {l : List (List UInt8)} {s t : List UInt8} (h : t ∈ addS l s) : t ∈ l ∨ t = s := by
 unfold addS at h
 split at h
 · exact .inl h
 · simpa using h
theorem var_00 : ∀ (cs : List Nat) (i : Nat) (l : List (List UInt8)), i + cs.length ≤ 9 -> (∀ c ∈ cs, c < 4) -> (∀ j, i ≤ j -> j ≤ 9 -> vN j ∉ l) -> varF l (varsPp i cs) = (0, 0)
 | [], _, _, _, _, _ => rfl
 | c :: r, i, l, hi, hc, hl => by
  simp only [List.length_cons] at hi
  have hb : -1000000000 ≤ iniV c ∧ iniV c ≤ 1000000000 := by
   match c, hc c (by simp) with
   | 0, _ => decide
   | 1, _ => decide
   | 2, _ => decide
   | 3, _ => decide
  rw [varsPp, varF, if_neg (by simp only; omega), if_neg (hl i (Nat.le_refl _) (by omega))]
  refine var_00 r (i + 1) _ (by omega) (fun c h => hc c (by simp [h])) fun j hj hj9 hm => ?_
  rcases mem_addS hm with h | h
  · exact hl j (by omega) hj9 h
  · have := vN_inj (by omega) (by omega) h; omega
theorem actsPp_len : ∀ (as' : List GA) (k : Nat), (actsPp k as').length = as'.length
 | [], _ => rfl
 | _ :: r, k => congrArg (· + 1) (actsPp_len r (k + 1))
def allSt (g : GR) : List StageP := stsPp 0 g.stages ++ [endPp g.stages.length g.pays]
theorem lb_st (i : Nat) (g : GS) : (stPp i g).lb = sN i := by cases g <;> rfl
theorem lab_0 {N : Nat} {p : List GX} : ∀ (ss : List GS) (i : Nat) (l : List (List UInt8)), i + ss.length = N -> N ≤ 8 -> (∀ j, i ≤ j -> j ≤ 9 -> sN j ∉ l) -> labF l (stsPp i ss ++ [endPp N p]) = (0, 0)
 | [], i, l, hi, hN, hl => by
  have : i = N := by simpa using hi
  subst this
  have e : (endPp i p).lb = sN i := rfl
  rw [stsPp, List.nil_append, labF, e, if_neg (by simp [sN]), if_neg (hl i (Nat.le_refl _) (by omega))]; rfl
 | s :: r, i, l, hi, hN, hl => by
  simp only [List.length_cons] at hi
  rw [stsPp, List.cons_append, labF, lb_st, if_neg (by simp [sN]), if_neg (hl i (Nat.le_refl _) (by omega))]
  refine lab_0 r (i + 1) _ (by omega) hN fun j hj hj9 hm => ?_
  rcases mem_addS hm with h | h
  · exact hl j (by omega) hj9 h
  · have := sN_inj (by omega) (by omega) h; omega
theorem find_st {N t : Nat} {p : List GX} (ht : t ≤ N) (hN : N ≤ 8) : ∀ (ss : List GS) (i m : Nat), i + ss.length = N -> i ≤ t -> findG (sN t) m (stsPp i ss ++ [endPp N p]) = ((m + (t - i) : Nat) : Int)
 | [], i, m, hi, hit => by
  have : i = N := by simpa using hi
  subst this
  have : t = i := by omega
  subst this
  have e : (endPp t p).lb = sN t := rfl
  rw [stsPp, List.nil_append, findG, if_pos e, Nat.sub_self, Nat.add_zero]
 | s :: r, i, m, hi, hit => by
  simp only [List.length_cons] at hi
  rw [stsPp, List.cons_append, findG, lb_st]
  by_cases h : i = t
  · subst h; rw [if_pos rfl, Nat.sub_self, Nat.add_zero]
  · rw [if_neg (fun e => h (sN_inj (by omega) (by omega) e)), find_st ht hN r (i + 1) (m + 1) (by omega) (by omega)]
    congr 1; omega
section
variable {g : GR} (hw : g.Wf) {F : List StageP} (hF : ∀ x ∈ F, x.lb = [])
include hw hF
theorem find_all {t : Nat} (ht : t ≤ g.stages.length) : findF (F ++ allSt g) (sN t) = ((F.length + t : Nat) : Int) := by
 have h4 := hw.st4
 have key : ∀ (F : List StageP) (m : Nat), (∀ x ∈ F, x.lb = []) -> findG (sN t) m (F ++ allSt g) = ((m + F.length + t : Nat) : Int) := by
  intro F
  induction F with
  | nil =>
   intro m _
   have := find_st (N := g.stages.length) (t := t) (p := g.pays) ht (by omega) g.stages 0 m (by omega) (Nat.zero_le _)
   simp only [List.nil_append, List.length_nil, Nat.add_zero, Nat.sub_zero] at this ⊢
   exact this
  | cons x r ih =>
   intro m hx
   rw [List.cons_append, findG, hx x (by simp), if_neg (by simp [sN]), ih (m + 1) fun y hy => hx y (by simp [hy])]
   simp only [List.length_cons]
   congr 1; omega
 have := key F 0 hF
 rw [Nat.zero_add] at this
 exact this
theorem go_0 {i k : Nat} {a : GA} (ha : a.Wf g.v i g.stages.length) : goF (F ++ allSt g) ((F.length + i : Nat) : Int) (actPp k a) = (0, 0) := by
 unfold goF
 cases hg : a.go with
 | none => rw [if_pos (by simp [actPp, hg, goN])]
 | some t =>
  have ht := ha.go t hg
  have hgo : (actPp k a).go = sN t := by simp [actPp, hg, goN]
  rw [hgo, if_neg (by simp [sN]), find_all hw hF ht.2, if_neg (by omega), if_neg (by omega)]
theorem act_00 {i k : Nat} {a : GA} (ha : a.Wf g.v i g.stages.length) : actF (nmL g.v) (F ++ allSt g) ((F.length + i : Nat) : Int) (actPp k a) = (0, 0) := by
 have h1 := hw.v1
 have h3 := hw.v3
 have hwh : (actPp k a).wh = whL a.wh := rfl
 have hset : (actPp k a).sets = a.sets.map setPp := rfl
 unfold actF
 have hl : (whL a.wh).length ≤ 1 ∧ wantL (nmL g.v) 2 (whL a.wh) = (0, 0) := by
  cases hq : a.wh with
  | none => exact ⟨by simp [whL], rfl⟩
  | some c =>
   refine ⟨by simp [whL], ?_⟩
   show wantL (nmL g.v) 2 [cdE c] = (0, 0)
   rw [wantL, want_cd h1 h3 (ha.wh c hq), if_neg (by decide)]; rfl
 rw [hwh, hset, if_neg (by omega), hl.2, if_neg (by decide), sets_0 h1 h3 a.sets ha.sets, if_neg (by decide)]
 exact go_0 hw hF ha
theorem acts_0 {i : Nat} : ∀ (as' : List GA) (k : Nat) (l : List (List UInt8)), k + as'.length ≤ 9 -> (∀ a ∈ as', a.Wf g.v i g.stages.length) -> (∀ j, k ≤ j -> j ≤ 9 -> aN j ∉ l) -> actsF (nmL g.v) (F ++ allSt g) ((F.length + i : Nat) : Int) l (actsPp k as') = (0, 0)
 | [], _, _, _, _, _ => rfl
 | a :: r, k, l, hk, h, hl => by
  simp only [List.length_cons] at hk
  have hn : (actPp k a).nm = aN k := rfl
  rw [actsPp, actsF, hn, if_neg (hl k (Nat.le_refl _) (by omega)), act_00 hw hF (h a (by simp)), if_neg (by decide)]
  refine acts_0 r (k + 1) _ (by omega) (fun a ha => h a (by simp [ha])) fun j hj hj9 hm => ?_
  rcases mem_addS hm with h | h
  · exact hl j (by omega) hj9 h
  · have := aN_inj (by omega) (by omega) h; omega
theorem stage_0 {i : Nat} {s : GS} (hs : s.Wf g.pl g.v g.stages.length i) : stageF (nmL g.v) g.pl (F ++ allSt g) ((F.length + i : Nat) : Int) (stPp i s) = (0, 0) := by
 have h1 := hw.v1
 have h3 := hw.v3
 have hp := hw.pl3
 unfold stageF
 cases s with
 | deal x r w s p =>
  obtain ⟨k1, k2, k3, k4, k5⟩ := hs
  obtain ⟨m1, m2⟩ := want_wg h1 h3 k1 k3
  rw [if_neg (by simp [stPp]; omega), if_pos (show (stPp i (.deal x r w s p)).k = 1 from rfl)]
  unfold dealF
  have hlo : ¬ ((loV r : Int) < -1000000000 ∨ 1000000000 < (loV r : Int) ∨ (hiV r : Int) < loV r ∨ (loV r : Int) + 60 ≤ hiV r) := by
   match r, k2 with
   | 0, _ => decide
   | 1, _ => decide
   | 2, _ => decide
   | 3, _ => decide
  have e4 : (stPp i (.deal x r w s p)).wt = wgE w x := rfl
  have e5 : (stPp i (.deal x r w s p)).seen = if s = 1 then [(p : Int)] else [] := rfl
  rw [if_neg (show ¬ (stPp i (.deal x r w s p)).nm ∉ nmL g.v from fun hh => hh (mem_nm h1 h3 k1)), if_neg (show ¬ ((stPp i (.deal x r w s p)).lo < -1000000000 ∨ 1000000000 < (stPp i (.deal x r w s p)).lo ∨ (stPp i (.deal x r w s p)).hi < (stPp i (.deal x r w s p)).lo ∨ (stPp i (.deal x r w s p)).lo + 60 ≤ (stPp i (.deal x r w s p)).hi) from hlo), e4, m1, if_neg (by decide), e5]
  by_cases hs1 : s = 1
  · rw [if_pos hs1, seenF, if_neg (by omega), if_neg (by omega)]; rfl
  · rw [if_neg hs1]; rfl
 | turn w p acts =>
  obtain ⟨k1, k2, k3, k4, k5⟩ := hs
  rw [if_neg (by simp [stPp]), if_neg (by simp [stPp]), if_pos (show (stPp i (.turn w p acts)).k = 2 from rfl)]
  unfold turnF
  have e1 : (stPp i (.turn w p acts)).who = [whoE w p] := rfl
  have e2 : (stPp i (.turn w p acts)).acts = actsPp 0 acts := rfl
  rw [e1, e2]
  simp only
  rw [want_who h1 h3 (by omega) k1, if_neg (by decide), actsPp_len, if_neg (by omega)]
  exact acts_0 hw hF acts 0 [] (by omega) k5 fun j _ _ h => by cases h
theorem end_0 : stageF (nmL g.v) g.pl (F ++ allSt g) ((F.length + g.stages.length : Nat) : Int) (endPp g.stages.length g.pays) = (0, 0) := by
 unfold stageF
 rw [if_neg (by simp [endPp]), if_neg (by simp [endPp]), if_neg (by simp [endPp]), if_pos (show (endPp g.stages.length g.pays).k = 3 from rfl)]
 unfold endF
 have hp := hw.payl
 simp only [endPp, List.length_map]
 rw [if_neg (by simp [hp])]
 exact want_pays hw.v1 hw.v3 g.pays hw.pays
theorem stages_0 : ∀ (ss : List GS) (i : Nat), i + ss.length = g.stages.length -> stsWf g.pl g.v g.stages.length i ss -> stagesF (nmL g.v) g.pl (F ++ allSt g) (F.length + i) (stsPp i ss ++ [endPp g.stages.length g.pays]) = (0, 0)
 | [], i, hi, _ => by
  have : i = g.stages.length := by simpa using hi
  subst this
  rw [stsPp, List.nil_append, stagesF, end_0 hw hF, if_neg (by decide)]; rfl
 | s :: r, i, hi, h => by
  simp only [List.length_cons] at hi
  rw [stsPp, List.cons_append, stagesF, stage_0 hw hF h.1, if_neg (by decide), Nat.add_assoc]
  exact stages_0 r (i + 1) (by omega) h.2
theorem check_0 {nm : List UInt8} (hfl : ∀ l, labF l F = (0, 0) ∧ ∀ S, labF l (F ++ S) = labF l S) (hfs : ∀ S, stagesF (nmL g.v) g.pl (F ++ S) 0 (F ++ allSt g) = stagesF (nmL g.v) g.pl (F ++ S) F.length (allSt g)) :
 checkF ⟨nm, g.pl, varsPp 0 g.ini, F ++ allSt g⟩ = (0, 0) := by
 have h1 := hw.pl1
 have h2 := hw.pl3
 have h3 := hw.v3
 have h4 := hw.inl
 have h5 := hw.st4
 have n0 : namesOf ⟨nm, g.pl, varsPp 0 g.ini, F ++ allSt g⟩ = nmL g.v := names_gen hw
 unfold checkF
 have c1 : plF ⟨nm, g.pl, varsPp 0 g.ini, F ++ allSt g⟩ = (0, 0) := by unfold plF; rw [if_neg (by simp only; omega)]
 have c2 : varF [] (varsPp 0 g.ini) = (0, 0) := var_00 g.ini 0 [] (by omega) hw.ini fun j _ _ h => by cases h
 have c3 : labF [] (F ++ allSt g) = (0, 0) := by
  rw [(hfl []).2]
  exact lab_0 g.stages 0 [] (by omega) (by omega) fun j _ _ h => by cases h
 have c4 : lastF (F ++ allSt g) = (0, 0) := by
  unfold lastF
  have : (F ++ allSt g).getLast? = some (endPp g.stages.length g.pays) := by unfold allSt; rw [← List.append_assoc, List.getLast?_concat]
  rw [this]; rfl
 have c5 : stagesF (nmL g.v) g.pl (F ++ allSt g) 0 (F ++ allSt g) = (0, 0) := by
  rw [hfs]
  have := stages_0 hw hF g.stages 0 (by omega) hw.sts
  rwa [Nat.add_zero] at this
 rw [n0, c1]
 simp only [c2, c3, c4, c5]
 rfl
end
end Go.Proofs.YthmdmnfojbnobaaGreatDoor
namespace Go.Proofs.YthmdmnfojbnobaaGreatDoor
open Go.Ab
theorem stsPp_len : ∀ (ss : List GS) (i : Nat), (stsPp i ss).length = ss.length
 | [], _ => rfl
 | _ :: r, i => congrArg (· + 1) (stsPp_len r (i + 1))
theorem allSt_len (g : GR) : (allSt g).length = g.stages.length + 1 := by simp [allSt, stsPp_len]
theorem sts_get {pl v n : Nat} : ∀ (ss : List GS) (i k : Nat) (h : k < ss.length), stsWf pl v n i ss -> (stsPp i ss)[k]? = some (stPp (i + k) ss[k]) ∧ (ss[k]).Wf pl v n (i + k)
 | s :: r, i, 0, _, h => ⟨rfl, h.1⟩
 | s :: r, i, k + 1, hk, h => by
  have := sts_get r (i + 1) k (by simpa using hk) h.2
  rw [show i + (k + 1) = i + 1 + k by omega]
  simpa [stsPp] using this
theorem acts_get : ∀ (as' : List GA) (m k : Nat) (h : k < as'.length), (actsPp m as')[k]? = some (actPp (m + k) as'[k])
 | a :: r, m, 0, _ => rfl
 | a :: r, m, k + 1, hk => by
  have := acts_get r (m + 1) k (by simpa using hk)
  rw [show m + (k + 1) = m + 1 + k by omega]
  simpa [actsPp] using this
section
variable {g : GR} (hw : g.Wf)
include hw
theorem tgt_gen {i k : Nat} (hi : i < (allSt g).length) (hk : k < ((allSt g)[i]).acts.length) : ∃ t : Nat, i < t ∧ t ≤ g.stages.length ∧
   ∀ F : List StageP, F.length ≤ 1 -> (∀ x ∈ F, x.lb = []) -> tgtF (F ++ allSt g) ((F.length + i : Nat) : Int) (k : Int) = (((F.length + t : Nat) : Int), 0) := by
 have h4 := hw.st4
 rw [allSt_len] at hi
 by_cases hN : i = g.stages.length
 · exfalso
   subst hN
   have e : (allSt g)[g.stages.length]? = some (endPp g.stages.length g.pays) := by
     unfold allSt
     rw [List.getElem?_append_right (by rw [stsPp_len]; omega), stsPp_len, Nat.sub_self]; rfl
   have e2 : (allSt g)[g.stages.length]'(by rw [allSt_len]; omega) = endPp g.stages.length g.pays := Option.some.inj ((List.getElem?_eq_getElem _).symm.trans e)
   rw [e2] at hk
   exact absurd hk (Nat.not_lt_zero _)
 · have hin : i < g.stages.length := by omega
   obtain ⟨e, hwf⟩ := sts_get g.stages 0 i hin hw.sts
   rw [Nat.zero_add] at e hwf
   have e1 : (allSt g)[i]? = some (stPp i g.stages[i]) := by
     unfold allSt
     rw [List.getElem?_append_left (by rw [stsPp_len]; exact hin)]; exact e
   have e2 : (allSt g)[i]'(by rw [allSt_len]; omega) = stPp i g.stages[i] := Option.some.inj ((List.getElem?_eq_getElem _).symm.trans e1)
   rw [e2] at hk
   generalize g.stages[i] = s at e1 hk hwf
   cases s with
   | deal x r w s p => exact absurd hk (Nat.not_lt_zero _)
   | turn w p acts =>
     have ha : (stPp i (.turn w p acts)).acts = actsPp 0 acts := rfl
     rw [ha, actsPp_len] at hk
     have hac := acts_get acts 0 k hk
     rw [Nat.zero_add] at hac
     have hA := hwf.2.2.2.2 _ (List.getElem_mem hk)
     generalize acts[k] = a at hac hA
     have key : ∀ F : List StageP, F.length ≤ 1 -> tgtF (F ++ allSt g) ((F.length + i : Nat) : Int) (k : Int) = goT (F ++ allSt g) ((F.length + i : Nat) : Int) (goN a.go) := by
       intro F hF
       unfold tgtF
       rw [if_neg (by omega), Int.toNat_natCast, List.getElem?_append_right (by omega), show F.length + i - F.length = i by omega, e1]
       simp only
       unfold actT
       rw [if_neg (by rintro (h | h); · exact h rfl
                      · omega), ha, Int.toNat_natCast, hac]
       rfl
     cases hg : a.go with
     | none =>
       refine ⟨i + 1, by omega, by omega, fun F hF hl => ?_⟩
       rw [key F hF, hg]
       unfold goT
       rw [if_pos (show goN none = [] from rfl), wrap_id (by omega) (by omega)]
       congr 1
     | some t =>
       have ht := hA.go t hg
       refine ⟨t, ht.1, ht.2, fun F hF hl => ?_⟩
       rw [key F hF, hg]
       unfold goT
       have : goN (some t) = sN t := rfl
       rw [this, if_neg (by simp [sN]), find_all hw hl ht.2, if_pos (by omega)]
end
def fr0 : StageP := ⟨1, [], [118, 48], 2, 4, [], false, [0], [], [], [], 0⟩
def fr1 : StageP := ⟨2, [], [], 0, 0, [], false, [], [eIn 0], [⟨[97], [], false, [], [], 0⟩, ⟨[98], [eOp 12 [eIn 1, eIn 2]], true, [⟨[118, 48], eIn 3, 0⟩], [], 0⟩], [], 0⟩
def frt0 : List UInt8 := [103, 97, 109, 101, 32, 102, 59, 32, 112, 108, 97, 121, 101, 114, 115, 32, 49, 59, 32, 118, 97, 114, 32, 118, 48, 32, 61, 32, 48, 59, 32, 100, 101, 97, 108, 32, 118, 48, 32, 105, 110, 32, 50, 32, 46, 46, 32, 52, 32, 115, 101, 101, 110, 32, 98, 121, 32, 48, 59, 32, 101, 110, 100, 32, 123, 32, 112, 97, 121, 32, 48, 59, 32, 125]
def frt1 : List UInt8 := [103, 97, 109, 101, 32, 102, 59, 32, 112, 108, 97, 121, 101, 114, 115, 32, 49, 59, 32, 116, 117, 114, 110, 32, 48, 32, 123, 32, 97, 99, 116, 105, 111, 110, 32, 97, 32, 123, 32, 125, 32, 97, 99, 116, 105, 111, 110, 32, 98, 32, 119, 104, 101, 110, 32, 49, 32, 60, 32, 50, 32, 104, 105, 100, 100, 101, 110, 32, 123, 32, 118, 48, 32, 61, 32, 51, 59, 32, 125, 32, 125, 32, 101, 110, 100, 32, 123, 32, 112, 97, 121, 32, 48, 59, 32, 125]
theorem frt0_q : (parseR frt0).1.stages.length = 2 ∧ (parseR frt0).1.stages.head?.map StageP.er = some fr0 := ⟨by kernel_rfl, by kernel_rfl⟩
theorem frt1_q : (parseR frt1).1.stages.length = 2 ∧ (parseR frt1).1.stages.head?.map StageP.er = some fr1 := ⟨by kernel_rfl, by kernel_rfl⟩
theorem front_0 {v pl : Nat} (h1 : 1 ≤ v) (h3 : v ≤ 3) (hp1 : 1 ≤ pl) (hp3 : pl ≤ 3) (S : List StageP) {f : StageP} (hf : f = fr0 ∨ f = fr1) : stageF (nmL v) pl S 0 f = (0, 0) := by
 have hv : v = 1 ∨ v = 2 ∨ v = 3 := by omega
 have hp : pl = 1 ∨ pl = 2 ∨ pl = 3 := by omega
 rcases hf with rfl | rfl <;> rcases hv with rfl | rfl | rfl <;> rcases hp with rfl | rfl | rfl <;> rfl
theorem hgt_ex (g : GX) : (exE g).hgt ≤ 100000 := by
 unfold exE
 repeat' split
 all_goals simp [Ex.hgt, Ex.hgtL]
theorem hgt_cd (g : GX) : (cdE g).hgt ≤ 1000 := by
 unfold cdE
 repeat' split
 all_goals simp [Ex.hgt, Ex.hgtL]
theorem hgt_who (w : Option GX) (p : Nat) : (whoE w p).hgt ≤ 100000 := by
 cases w with
 | none => simp [whoE, Ex.hgt, Ex.hgtL]
 | some g => have := hgt_cd g; simp [whoE, Ex.hgt, Ex.hgtL]; omega
theorem hgt_wg (w x : Nat) : ∀ e ∈ wgE w x, e.hgt ≤ 100000 := by
 unfold wgE
 repeat' split
 all_goals simp [Ex.hgt, Ex.hgtL]
theorem okP_act {k v i n : Nat} {a : GA} (h : a.Wf v i n) : (actPp k a).Ok := by
 refine ⟨?_, ?_, ?_⟩
 · have := h.len; simp [actPp]; omega
 · intro e he
   cases hq : a.wh with
   | none => simp [actPp, hq, whL] at he
   | some c =>
    simp [actPp, hq, whL] at he
    subst he
    have := hgt_cd c; omega
 · intro s hs
   simp only [actPp, List.mem_map] at hs
   obtain ⟨x, _, rfl⟩ := hs
   exact hgt_ex x.2
theorem okP_acts {v i n : Nat} : ∀ (l : List GA) (k : Nat), (∀ a ∈ l, a.Wf v i n) -> ∀ a ∈ actsPp k l, a.Ok
 | [], _, _, a, h => by cases h
 | x :: r, k, hw, a, h => by
  rw [actsPp, List.mem_cons] at h
  rcases h with rfl | h
  · exact okP_act (hw x (by simp))
  · exact okP_acts r (k + 1) (fun y hy => hw y (by simp [hy])) a h
theorem okP_st {pl v n i : Nat} {s : GS} (h : s.Wf pl v n i) : (stPp i s).Ok := by
 cases s with
 | deal x r w s p =>
  refine ⟨hgt_wg w x, ?_, (fun e h => by cases h), (show (0 : Nat) < 4611686018427387904 by decide), (fun e h => by cases h), (show (0 : Nat) < 4611686018427387904 by decide), (fun e h => by cases h)⟩
  show (if s = 1 then [(p : Int)] else []).length < _
  split <;> simp
 | turn w p acts =>
  refine ⟨(fun e h => by cases h), (show (0 : Nat) < 4611686018427387904 by decide), ?_, ?_, okP_acts acts 0 h.2.2.2.2, (show (0 : Nat) < 4611686018427387904 by decide), (fun e h => by cases h)⟩
  · intro e he
    have : e = whoE w p := by simpa [stPp] using he
    subst this; exact hgt_who w p
  · show (actsPp 0 acts).length < _
    rw [actsPp_len]; have := h.2.2.2.1; omega
theorem okP_sts {pl v n : Nat} : ∀ (ss : List GS) (i : Nat), stsWf pl v n i ss -> ∀ x ∈ stsPp i ss, x.Ok
 | [], _, _, x, h => by cases h
 | s :: r, i, hw, x, h => by
  rw [stsPp, List.mem_cons] at h
  rcases h with rfl | h
  · exact okP_st hw.1
  · exact okP_sts r (i + 1) hw.2 x h
theorem okP_fr {f : StageP} (h : f = fr0 ∨ f = fr1) : f.Ok := by
 rcases h with rfl | rfl
 · exact ⟨(fun e h => by cases h), by decide, (fun e h => by cases h), by decide, (fun a h => by cases h), by decide, fun e h => by cases h⟩
 · refine ⟨(fun e h => by cases h), by decide, ?_, by decide, ?_, by decide, fun e h => by cases h⟩
   · intro e he
     simp [fr1] at he
     subst he; simp [Ex.hgt, Ex.hgtL]
   · intro a ha
     simp [fr1] at ha
     rcases ha with rfl | rfl
     · exact ⟨by decide, (fun e h => by cases h), fun e h => by cases h⟩
     · refine ⟨by decide, ?_, ?_⟩
       · intro e he; simp at he; subst he; simp [Ex.hgt, Ex.hgtL]
       · intro e he; simp at he; subst he; simp [Ex.hgt, Ex.hgtL]
theorem varsPp_len : ∀ (cs : List Nat) (i : Nat), (varsPp i cs).length = cs.length
 | [], _ => rfl
 | _ :: r, i => congrArg (· + 1) (varsPp_len r (i + 1))
theorem okP_gen {g : GR} (hw : g.Wf) (nm : List UInt8) (F : List StageP) (hl : F.length ≤ 1) (hF : ∀ x ∈ F, x.Ok) : RulesP.Ok ⟨nm, g.pl, varsPp 0 g.ini, F ++ allSt g⟩ := by
 have h1 := hw.inl
 have h2 := hw.v3
 have h3 := hw.st4
 refine ⟨?_, ?_, fun x hx => ?_⟩
 · show (varsPp 0 g.ini).length < _
   rw [varsPp_len]; omega
 · show (F ++ allSt g).length < _
   rw [List.length_append, allSt_len]; omega
 · have hx : x ∈ F ++ allSt g := hx
   rw [List.mem_append] at hx
   rcases hx with hx | hx
   · exact hF x hx
   · unfold allSt at hx
     rw [List.mem_append] at hx
     rcases hx with hx | hx
     · exact okP_sts g.stages 0 hw.sts x hx
     · have : x = endPp g.stages.length g.pays := by simpa using hx
       subst this
       refine ⟨(fun e h => by cases h), (show (0 : Nat) < 4611686018427387904 by decide), (fun e h => by cases h), (show (0 : Nat) < 4611686018427387904 by decide), (fun e h => by cases h), ?_, ?_⟩
       · show (g.pays.map exE).length < _
         rw [List.length_map, hw.payl]; have := hw.pl3; omega
       · intro e he
         have he : e ∈ g.pays.map exE := he
         rw [List.mem_map] at he
         obtain ⟨y, _, rfl⟩ := he
         exact hgt_ex y
end Go.Proofs.YthmdmnfojbnobaaGreatDoor
namespace Go.Proofs.YthmdmnfojbnobaaGreatDoor
open Go.Ab
end Go.Proofs.YthmdmnfojbnobaaGreatDoor
namespace Go.Proofs.YthmdmnfojbnobaaGreatDoor
open Go.Ab
theorem same_er {q r : RulesP} (h : q.er = r.er) : (checkF q).1 = (checkF r).1 ∧ namesOf q = namesOf r ∧ (∀ i act, tgtF q.stages i act = tgtF r.stages i act) ∧ (q.Ok ↔ r.Ok) ∧ q.vars.length = r.vars.length ∧ q.stages.length = r.stages.length := by
 have hs : q.stages.map StageP.er = r.stages.map StageP.er := congrArg RulesP.stages h
 have hv : q.vars.map VarP.er = r.vars.map VarP.er := congrArg RulesP.vars h
 refine ⟨?_, ?_, fun i act => ?_, ?_, ?_, ?_⟩
 · rw [← check_er q, h, check_er]
 · rw [← names_er q, h, names_er]
 · rw [← tgt_er q.stages, hs, tgt_er]
 · rw [← ok_er (r := q), h, ok_er]
 · have := congrArg List.length hv
   rwa [List.length_map, List.length_map] at this
 · have := congrArg List.length hs
   rwa [List.length_map, List.length_map] at this
end Go.Proofs.YthmdmnfojbnobaaGreatDoor
namespace Go.Proofs.YthmdmnfojbnobaaGreatDoor
open Go.Ab
theorem fr_er {f : StageP} (h : f = fr0 ∨ f = fr1) : f.er = f ∧ f.lb = [] := by rcases h with rfl | rfl <;> exact ⟨rfl, rfl⟩
theorem gen_ck {g : GR} (hw : g.Wf) (nm : List UInt8) : checkF ⟨nm, g.pl, varsPp 0 g.ini, allSt g⟩ = (0, 0) :=
 check_0 hw (F := []) (fun x hx => by cases hx) (fun l => ⟨rfl, fun S => rfl⟩) (fun S => rfl)
theorem gen_ckf {g : GR} (hw : g.Wf) (nm : List UInt8) {f : StageP} (hf : f = fr0 ∨ f = fr1) : checkF ⟨nm, g.pl, varsPp 0 g.ini, f :: allSt g⟩ = (0, 0) := by
 have hl := (fr_er hf).2
 refine check_0 hw (F := [f]) (fun x hx => by rw [List.mem_singleton.1 hx]; exact hl) (fun l => ⟨?_, fun S => ?_⟩) (fun S => ?_)
 · rw [labF, if_pos hl]; rfl
 · rw [List.singleton_append, labF, if_pos hl]
 · have h0 := front_0 hw.v1 hw.v3 hw.pl1 hw.pl3 ([f] ++ S) hf
   show (if (stageF (nmL g.v) g.pl ([f] ++ S) ((0 : Nat) : Int) f).1 ≠ 0 then _ else stagesF (nmL g.v) g.pl ([f] ++ S) 1 (allSt g)) = _
   rw [Int.natCast_zero, h0, if_neg (by decide)]; rfl
theorem ck_of {r : RulesP} (h : (checkF r).1 = 0) : checkF r = (0, 0) := firstF_0 _ h
theorem acts_er_len {x y : StageP} (h : x.er = y.er) : x.acts.length = y.acts.length := by
 have := congrArg (fun z : StageP => z.acts.length) h
 simpa [StageP.er] using this
theorem front_facts {g : GR} (hw : g.Wf) {r : RulesP} (hr : r.er = (genPp g).er) {f fr : StageP} (hfr : fr = fr0 ∨ fr = fr1) (hf : f.er = fr) :
 r.Ok ∧ checkF r = (0, 0) ∧ RulesP.Ok ⟨r.nm, r.pl, r.vars, f :: r.stages⟩ ∧ checkF ⟨r.nm, r.pl, r.vars, f :: r.stages⟩ = (0, 0) ∧ r.stages.length ≤ 5 ∧ r.vars.length ≤ 3 ∧
 ∀ (i k : Nat) (hi : i < r.stages.length), k < (r.stages[i]).acts.length -> ∃ t : Nat, i < t ∧ t < r.stages.length ∧ tgtF r.stages i k = ((t : Int), 0) ∧ tgtF (f :: r.stages) ((i : Int) + 1) k = ((t : Int) + 1, 0) := by
 obtain ⟨h1, h2⟩ := fr_er hfr
 have hq : RulesP.er ⟨r.nm, r.pl, r.vars, f :: r.stages⟩ = RulesP.er ⟨gN g.nm, g.pl, varsPp 0 g.ini, fr :: allSt g⟩ := by
  have e1 := congrArg RulesP.nm hr
  have e2 := congrArg RulesP.pl hr
  have e3 := congrArg RulesP.vars hr
  have e4 := congrArg RulesP.stages hr
  unfold RulesP.er genPp at e1 e2 e3 e4
  simp only at e1 e2 e3 e4
  unfold RulesP.er
  simp only [e1, e2, e3, List.map_cons, e4, hf, h1, allSt]
 obtain ⟨c1, _, c3, c4, c5, c6⟩ := same_er hr
 obtain ⟨d1, _, d3, d4, _, _⟩ := same_er hq
 have hsl : r.stages.length = g.stages.length + 1 := by rw [c6]; exact allSt_len g
 refine ⟨c4.2 ?_, ck_of ?_, d4.2 ?_, ck_of ?_, ?_, ?_, fun i k hi hk => ?_⟩
 · exact okP_gen hw (gN g.nm) [] (by decide) fun x hx => by cases hx
 · rw [c1]; exact congrArg Prod.fst (gen_ck hw _)
 · exact okP_gen hw (gN g.nm) [fr] (Nat.le_refl 1) fun x hx => by rw [List.mem_singleton.1 hx]; exact okP_fr hfr
 · rw [d1]; exact congrArg Prod.fst (gen_ckf hw _ hfr)
 · rw [hsl]; have := hw.st4; omega
 · rw [c5]
   show (varsPp 0 g.ini).length ≤ 3
   rw [varsPp_len, hw.inl]; exact hw.v3
 · have e4 := congrArg RulesP.stages hr
   have e4 : r.stages.map StageP.er = (allSt g).map StageP.er := e4
   have hi2 : i < (allSt g).length := by rw [allSt_len]; omega
   have e5 : (r.stages[i]).er = ((allSt g)[i]).er := by
    have := congrArg (fun l : List StageP => l[i]?) e4
    simp only [List.getElem?_map, List.getElem?_eq_getElem hi, List.getElem?_eq_getElem hi2, Option.map_some] at this
    exact Option.some.inj this
   rw [acts_er_len e5] at hk
   obtain ⟨t, t1, t2, t3⟩ := tgt_gen hw hi2 hk
   refine ⟨t, t1, by omega, ?_, ?_⟩
   · have := t3 [] (by decide) (fun x hx => by cases hx)
     simp only [List.nil_append, List.length_nil, Nat.zero_add] at this
     rw [c3]
     exact this
   · have := t3 [fr] (Nat.le_refl 1) (fun x hx => by rw [List.mem_singleton.1 hx]; exact h2)
     have e : (((1 : Nat) + i : Nat) : Int) = (i : Int) + 1 := by omega
     have e6 : (((1 : Nat) + t : Nat) : Int) = (t : Int) + 1 := by omega
     have d3 := d3 ((i : Int) + 1) k
     simp only at d3
     rw [d3]
     simp only [List.length_cons, List.length_nil, Nat.zero_add, List.singleton_append, e, e6] at this
     exact this
end Go.Proofs.YthmdmnfojbnobaaGreatDoor
namespace Go.Proofs.YthmdmnfojbnobaaGreatDoor
open Go.Ab
def a4_0 : IC := IC.nth 0 i4
def a4_1 : IC := IC.nth 1 i4
def a4_2 : IC := IC.nth 2 i4
def a4_3 : IC := IC.nth 3 i4
def a4_4 : IC := IC.nth 4 i4
def a4_5 : IC := IC.nth 5 i4
def a4_6 : IC := IC.nth 6 i4
def a4_7 : IC := IC.nth 7 i4
def a4_8 : IC := IC.tl 8 i4
theorem i4_at : i4 = .seq a4_0 (.seq a4_1 (.seq a4_2 (.seq a4_3 (.seq a4_4 (.seq a4_5 (.seq a4_6 (.seq a4_7 a4_8))))))) := rfl
def hpF (r : RulesP) (f : StageP) (a b c : AO) : List AO := [⟨r.c, 25, 0, true⟩, a, b, ⟨[st (B r.nm), i64 r.pl, .slc (rws VarP.c r.vars) r.vars.length, .slc (rws StageP.c (f :: r.stages)) (r.stages.length + 1)], 25, 0, true⟩, c]
structure E4 (env : Env) : Prop where
 h5 : env.get 5 = bl true
 h6 : env.get 6 = rp 0
 h8 : env.get 8 = rp 3
section
variable {r : RulesP} {f : StageP} {a b c : AO} (hs : r.stages.length ≤ 5) (ho : r.Ok) (hoq : RulesP.Ok ⟨r.nm, r.pl, r.vars, f :: r.stages⟩)
 (ht : ∀ (i k : Nat) (hi : i < r.stages.length), k < (r.stages[i]).acts.length -> ∃ t : Nat, i < t ∧ t < r.stages.length ∧ tgtF r.stages i k = ((t : Int), 0) ∧ tgtF (f :: r.stages) ((i : Int) + 1) k = ((t : Int) + 1, 0))
include hs ho hoq ht
theorem loop4_1 {i : Nat} (hi : i < r.stages.length) {N : Nat} {K : XE -> Env -> List AO -> Prop} (hk : ∀ env, E4 env -> env.get 9 = i64 i -> K (.exit 2) env (hpF r f a b c)) :
 ∀ (m k : Nat) (env : Env), k + m = (r.stages[i]).acts.length -> E4 env -> env.get 9 = i64 i -> env.get 10 = i64 k -> LI Tryz.prog N drawB l4_1 env (hpF r f a b c) K := by
 have hx := ho.st _ (List.getElem_mem hi)
 have hal := hx.acts
 have hg9 : (rws StageP.c r.stages)[i * 12 + 9]? = some (.slc (rws ActP.c (r.stages[i]).acts) (r.stages[i]).acts.length) := by rw [rws_get StageP.c_len hi (by omega)]; rfl
 have hrl := rws_len StageP.c_len r.stages
 have hii : (i : Int) < r.stages.length := by omega
 have hT := fun k => ht i k hi
 have hac : ∀ x ∈ r.stages, x.acts.length < 4611686018427387904 := fun x hx => (ho.st x hx).acts
 have hacq : ∀ x ∈ f :: r.stages, x.acts.length < 4611686018427387904 := fun x hx => (hoq.st x hx).acts
 generalize (r.stages[i]).acts = as' at *
 have w1 : IntKind.i64.wrap ((i : Int) + 1) = (i : Int) + 1 := wrap_suc (by omega)
 intro m
 induction m with
 | zero =>
  intro k env hkm he h9 h10
  refine li_go hm l4_1.eq_1 ?_
  have : k = as'.length := by omega
  subst this
  simp -implicitDefEqProofs [hpF, RulesP.c, he.h5, he.h6, he.h8, h9, h10, rp, hii, hg9, hrl, hi]
  refine ⟨by omega, ?_⟩
  refine hk _ ⟨?_, ?_, ?_⟩ ?_
  all_goals simp [rp]
 | succ m ih =>
  intro k env hkm he h9 h10
  refine li_go hm l4_1.eq_1 ?_
  obtain ⟨t, t1, t2, t3, t4⟩ := hT k (by omega)
  have h8 := fun H => ok8 (H := H) (r := r) (by omega) hac i k
  have h8q := fun H => ok8 (H := H) (r := ⟨r.nm, r.pl, r.vars, f :: r.stages⟩) (by simp; omega) hacq ((i : Int) + 1) k
  simp only [rulesV, RulesP.c, List.length_cons] at h8 h8q
  rw [t3] at h8
  rw [t4] at h8q
  have hkl : (k : Int) < as'.length := by omega
  have hkl' : k < as'.length := by omega
  have w2 : IntKind.i64.wrap ((t : Int) + 1) = (t : Int) + 1 := wrap_suc (by omega)
  simp -implicitDefEqProofs [hpF, RulesP.c, he.h5, he.h6, he.h8, h9, h10, rp, hii, hg9, hrl, hi, hkl, hkl']
  refine ⟨by omega, call_go (h8 _) ?_⟩
  simp -implicitDefEqProofs [he.h5, he.h6, he.h8, h9, h10, rp, w1]
  refine call_go (h8q _) ?_
  have c1 : ¬ ((t : Int) ≤ i) := by omega
  have c2 : ¬ ((r.stages.length : Int) ≤ t) := by omega
  have c3 : ¬ t ≤ i := by omega
  have c4 : ¬ r.stages.length ≤ t := by omega
  simp -implicitDefEqProofs [he.h5, he.h6, he.h8, h9, h10, rp, w1, w2, c1, c2, c3, c4]
  refine ih (k + 1) _ (by omega) ⟨?_, ?_, ?_⟩ ?_ ?_
  all_goals simp [rp, wrap_suc (show k < 9223372036854775807 by omega)]
theorem loop4_0 {N : Nat} {K : XE -> Env -> List AO -> Prop} (hk : ∀ env, E4 env -> K (.exit 0) env (hpF r f a b c)) :
 ∀ (m i : Nat) (env : Env), i + m = r.stages.length -> E4 env -> env.get 9 = i64 i -> LI Tryz.prog N drawB l4_0 env (hpF r f a b c) K := by
 intro m
 induction m with
 | zero =>
  intro i env hm' he h9
  refine li_go hm l4_0.eq_1 ?_
  have : i = r.stages.length := by omega
  subst this
  simp -implicitDefEqProofs [hpF, RulesP.c, he.h5, he.h6, he.h8, h9, rp]
  refine hk _ ⟨?_, ?_, ?_⟩
  all_goals simp [rp]
 | succ m ih =>
  intro i env hm' he h9
  refine li_go hm l4_0.eq_1 ?_
  have hi : i < r.stages.length := by omega
  have hii : (i : Int) < r.stages.length := by omega
  simp -implicitDefEqProofs [hpF, RulesP.c, he.h5, he.h6, he.h8, h9, rp, hi, hii]
  refine loop4_1 hs ho hoq ht hi (fun env he2 h92 => ?_) (r.stages[i]).acts.length 0 _ (by omega) ⟨?_, ?_, ?_⟩ ?_ ?_
  · simp -implicitDefEqProofs [he2.h5, he2.h6, he2.h8, h92, rp]
    refine ih (i + 1) _ (by omega) ⟨?_, ?_, ?_⟩ ?_
    all_goals simp [he2.h5, he2.h6, he2.h8, rp, wrap_suc (show i < 9223372036854775807 by omega)]
  all_goals simp [rp]
end
theorem ok4 {l : List Int} (hl : l.length < 4611686018427387904) (w : Int) : Ok Tryz.prog 4 [.slc (ints l) l.length, i64 w] [] (.ret (bl true)) [] := by
 have hD := draw_ok (P := Tryz.prog) hm
 refine ok_WI hm Tryz.func4 c4 rfl fun hcl => ?_
 rw [i4_at]
 refine WI.seq hD ?_
 simp -implicitDefEqProofs [a4_0, IC.nth, i4]
 refine WI.seq hD ?_
 simp -implicitDefEqProofs [a4_1, IC.nth, i4]
 refine call_go ok15 ?_
 simp -implicitDefEqProofs
 refine WI.seq hD ?_
 by_cases hlen : 100 < l.length
 · have : (100 : Int) < l.length := by omega
   simp -implicitDefEqProofs [a4_2, IC.nth, i4, hlen, this, r4]
   exact cv_id
 have hlen' : ¬ (100 : Int) < l.length := by omega
 simp -implicitDefEqProofs [a4_2, IC.nth, i4, hlen, hlen']
 refine WI.seq hD ?_
 have hg := gen_read l
 have hgw := gen_wf l
 have hgl := gen_len l
 have h17 := fun H => ok17 (H := H) (l := l) hl
 have h16 := fun H => ok16 (H := H) (l := genB (genC l)) (by omega)
 generalize genB (genC l) = tx at h17 h16 hg
 obtain ⟨_, her⟩ := hg
 generalize (parseR tx).1 = r at h16 her
 simp -implicitDefEqProofs [a4_3, IC.nth, i4]
 refine call_go (h17 _) ?_
 simp -implicitDefEqProofs
 refine call_go (h16 _) ?_
 simp -implicitDefEqProofs [rulesV, RulesP.c]
 refine WI.seq hD ?_
 have h18 := fun H => ok18 (H := H) w 2 (by decide) (by decide)
 have hw2 : ∃ (k : Nat) (ft : List UInt8) (fr : StageP), w % 2 = k ∧ (fr = fr0 ∨ fr = fr1) ∧ ft.length ≤ 20000 ∧ k < 2 ∧ ([frt0, frt1])[k]? = some ft ∧ (parseR ft).1.stages.length = 2 ∧ (parseR ft).1.stages.head?.map StageP.er = some fr := by
  have : w % 2 = 0 ∨ w % 2 = 1 := by omega
  rcases this with h | h
  · exact ⟨0, frt0, fr0, h, .inl rfl, by decide, by decide, rfl, frt0_q⟩
  · exact ⟨1, frt1, fr1, h, .inr rfl, by decide, by decide, rfl, frt1_q⟩
 obtain ⟨k, ft, fr, hk, hfr, hftl, hk2, hft, hst2, hfe⟩ := hw2
 rw [hk] at h18
 have h16' := fun H => ok16 (H := H) (l := ft) (by omega)
 generalize (parseR ft).1 = fp at h16' hst2 hfe
 obtain ⟨f, rest, hfs⟩ : ∃ f rest, fp.stages = f :: rest := by
  cases hq : fp.stages with
  | nil => rw [hq] at hst2; cases hst2
  | cons f rest => exact ⟨f, rest, rfl⟩
 rw [hfs] at hfe
 have hfe : f.er = fr := by simpa using hfe
 obtain ⟨q1, q2, q3, q4, q5, q6, q7⟩ := front_facts hgw her hfr hfe
 have kk : k = 0 ∨ k = 1 := by omega
 have hsl := hst2
 rw [hfs] at hsl
 have key : ∀ (env : Env) (row : AO), env.get 5 = bl true -> env.get 6 = rp 0 -> env.get 7 = rp 2 -> WI Tryz.prog 128 drawB (a4_5.seq (a4_6.seq (a4_7.seq a4_8))) env [⟨r.c, 25, 0, true⟩, row, ⟨fp.c, 25, 0, true⟩] (Ab.Fin 0 r4 (Out.ret (bl true)) []) := by
  clear h16 h16' h17 h18 hft hk hk2 kk
  intro env row h5 h6 h7
  refine WI.seq hD ?_
  have h10 := fun H => ok10 (H := H) q1
  rw [q2] at h10
  simp only [rulesV, RulesP.c] at h10
  simp -implicitDefEqProofs [a4_5, IC.nth, i4, h5, h6, h7, rp, RulesP.c, hfs]
  refine call_go (h10 _) ?_
  simp -implicitDefEqProofs [h5, h6, h7, rp, RulesP.c, hfs, hsl]
  have hr1 : rest.length = 1 := by simpa using hsl
  rw [if_pos (by omega)]
  generalize B fp.nm = y1
  generalize fp.pl = y2
  generalize rws VarP.c fp.vars = y3
  generalize fp.vars.length = y4
  have hf12 : (rws StageP.c (f :: rest)).take 12 = f.c := by
   have := rws_c StageP.c_len (l := f :: rest) (i := 0) (by simp)
   simpa using this
  have hfl : 12 ≤ (rws StageP.c (f :: rest)).length := by rw [rws_len StageP.c_len]; simp; omega
  generalize rws StageP.c (f :: rest) = y5 at *
  refine WI.seq hD ?_
  simp -implicitDefEqProofs [a4_6, IC.nth, i4, h5, h6, h7, rp]
  refine WI.seq hD ?_
  have hrl := rws_len StageP.c_len r.stages
  simp -implicitDefEqProofs [a4_7, IC.nth, i4, h5, h6, h7, rp, hf12, hfl, hrl]
  have hcells : (f.c ++ List.take (r.stages.length * 12) (rws StageP.c r.stages)) = rws StageP.c (f :: r.stages) := by
   rw [List.take_of_length_le (by omega)]; rfl
  have hql := rws_len StageP.c_len (f :: r.stages)
  rw [hcells]
  refine ⟨fun s hs => rws_cells StageP.ok r.stages s (List.mem_of_mem_take hs), by omega, by omega, ?_⟩
  refine WI.tell (Tell.give (H0 := []) (by intro i o h; simp at h) 4 1 (o := ⟨rws StageP.c (f :: r.stages), 45, 1, true⟩) rfl rfl) ?_
  generalize hE : List.map (fun p : Nat × SV => (p.1, p.2.gv (([] : List AO).length + 4) 1 (rws StageP.c (f :: r.stages)) 1)) _ = E
  have hget := fun t => (congrArg (fun e : Env => e.get t) hE).symm
  simp only [get_map _ _ (gv_any _ _ _ _)] at hget
  have e5 := hget 5
  have e6 := hget 6
  have e7 := hget 7
  have e8 := hget 8
  clear hget
  simp -implicitDefEqProofs [h5, h6, h7, rp] at e5 e6 e7 e8
  clear hE
  rw [List.length_cons] at hql
  simp -implicitDefEqProofs [AO.gv, AO.dead, hql]
  rw [if_pos (by omega), Nat.add_comm 1 r.stages.length, List.take_of_length_le (by omega)]
  refine WI.of_X hD ?_
  have h10q := fun H => ok10 (H := H) q3
  rw [q4] at h10q
  have hv1 : r.vars.length < 1099511627776 := by omega
  have hs1 : r.stages.length < 4611686018427387904 := by omega
  have h13 := fun H => ok13 (H := H) (r := r) hv1
  have h13q := fun H => ok13 (H := H) (r := ⟨r.nm, r.pl, r.vars, f :: r.stages⟩) hv1
  have hnq : namesOf ⟨r.nm, r.pl, r.vars, f :: r.stages⟩ = namesOf r := rfl
  rw [hnq] at h13q
  have hnl : (namesOf r).length = r.vars.length := by simp [namesOf]
  have h12 : ∀ H, Ok Tryz.prog 12 [namesV (namesOf r), namesV (namesOf r)] H (.ret (bl true)) H := fun H => by
   have := ok12 (H := H) (IsS.slc H (namesOf r)) (IsS.slc H (namesOf r)) (by omega) (by omega)
   rw [decide_eq_true (rfl : namesOf r = namesOf r)] at this
   exact this
  generalize namesOf r = ns at h12 h13 h13q hnl
  simp only [rulesV, RulesP.c, List.length_cons] at h10q h13 h13q
  generalize hR : rws StageP.c (f :: r.stages) = yq at *
  generalize List.map (SV.gv 4 1 yq 1) row.cells = rc
  generalize row.ty = rt
  generalize row.ver = rv
  generalize row.live = rl
  simp -implicitDefEqProofs [a4_8, IC.tl, i4, e5, e6, e7, e8]
  refine callq_go (r := .agg [i64 0, i64 0]) (fun _ => h10q _) ?_
  simp -implicitDefEqProofs [e5, e6, e7, e8]
  refine callq_st (r := namesV ns) (fun _ => h13q _) ?_
  simp -implicitDefEqProofs [namesV, e5, e6, e7, e8]
  refine callq_st (r := namesV ns) (fun _ => h13 _) ?_
  simp -implicitDefEqProofs [namesV, e5, e6, e7, e8]
  refine callq_st (r := bl true) (fun _ => h12 _) ?_
  simp -implicitDefEqProofs [e5, e6, e7, e8]
  refine callq_st (r := namesV ns) (fun _ => h13 _) ?_
  simp -implicitDefEqProofs [namesV, e5, e6, e7, e8, hnl]
  subst hR
  refine loop4_0 q5 q1 q3 q7 (a := ⟨rc, rt, rv, rl⟩) (b := ⟨[st y1, i64 y2, SV.slc y3 y4, SV.slc y5 (rest.length + 1)], 25, 0, true⟩) (c := ⟨[], 45, 2, false⟩) (fun env he => ?_) r.stages.length 0 _ (by omega) ⟨?_, ?_, ?_⟩ ?_
  · simp -implicitDefEqProofs [he.h5, he.h6, he.h8, r4, hpF]
    exact cv_fz (H := []) 3 hcl rfl rfl
  all_goals simp [e5, e6, e8, rp]
 rcases kk with rfl | rfl
 all_goals
  simp at hft
  subst hft
  simp -implicitDefEqProofs [a4_4, IC.nth, i4]
  refine call_go (h18 _) ?_
  simp -implicitDefEqProofs
  refine call_go (h16' _) ?_
  simp -implicitDefEqProofs [rulesV, RulesP.c]
  refine key _ _ ?_ ?_ ?_
  all_goals simp [rp]
end Go.Proofs.YthmdmnfojbnobaaGreatDoor
namespace Go.Proofs.YthmdmnfojbnobaaGreatDoor
open Go Go.Ab
theorem law4 : ∀ dts, Dt.tyL Tryz.prog dts Tryz.f4.params.toList -> Ok Tryz.prog 4 (dts.map Dt.sv) [] (.ret (bl true)) [] := by
 intro dts h
 have hp : Tryz.f4.params.toList = [38, 3] := by kernel_rfl
 rw [hp] at h
 match dts, h with
 | [d1, d2], h =>
  obtain ⟨h1, h2, _⟩ := h
  obtain ⟨ys, rfl, hlen, hys⟩ := sl_of u38 h1
  obtain ⟨l, i1, i2⟩ := ints_of ys hys
  obtain ⟨w, rfl⟩ := int_of h2
  have hl : l.length < 4611686018427387904 := by rw [i2]; unfold reachBytes at hlen; omega
  have := ok4 hl w
  simp only [List.map_cons, List.map_nil, Dt.sv, Dt.cells, i1]
  rw [i2] at this
  exact this
end Go.Proofs.YthmdmnfojbnobaaGreatDoor
