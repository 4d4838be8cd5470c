/-
  Steps of the proof: contracts of functions and plain facts that the statement rests on.
-/
import Derived.Test.YtoghpbjllompaaaPart2
import Derived.Test.YtoghpbjllompaaaVG11
import Derived.Test.YtoghpbjllompaaaCore5
set_option linter.all false
namespace Go.Proofs.Ytoghpbjllompaaa.Rc
open Go.Ab
section
variable {H : List AO} {g : Gm}
theorem Gd.psW (h : Gd g) {x : Nd} (hx : x ∈ g.ns) : x.ps.length ≤ 4 := by
  have he := h.e x hx
  have h4 := h.p4
  unfold Nd.err at he
  split at he
  · omega
  · split at he
    · unfold Nd.chance at he
      split at he
      · omega
      · rename_i hc; simp only [not_or] at hc; omega
    · split at he
      · unfold Nd.move at he
        split at he
        · omega
        · rename_i hc; simp only [not_or] at hc; omega
      · unfold Nd.end at he
        split at he
        · omega
        · rename_i hc; simp only [not_or] at hc; omega
set_option maxRecDepth 10000 in
theorem ok26g (hg : Gd g) : Ok Try.prog 26 [.agg g.cells, .agg g.cells] H (.ret (bl true)) H := by
  have hne : g.ns ≠ [] := fun e => by have := hg.n1; rw [e] at this; simp at this
  have := ok26 (H := H) (g := g) (by have := hg.n; omega) (by have := hg.i; omega) (fun x hx => by have := hg.few hx; have := hg.psW hx; omega)
  rw [nsv_ne hne] at this
  exact this
end
theorem Made.len {pl most : Int} {g : Gm} (h : Made pl most g) (p1 : 1 ≤ pl) (p4 : pl ≤ 4) (hm : most ≤ 40) : g.formR = 0 ∧ g.byt.length ≤ 99996 := by
  have hf := h.form p1 p4 (by omega)
  rw [form_eq] at hf
  obtain ⟨hg, _⟩ := form0 hf
  have h1 := headB_len 71 g.pl g.is.length
  have h2 := fm_len (f := infB) (b := 2) (l := g.is) fun y _ => by simp [infB]
  have h3 := fm_len (f := Nd.byt) (b := 700) (l := g.ns) fun y hy => Nd.byt_len hg hy
  have h4 := h.ml
  have h5 := h.il
  refine ⟨hf, ?_⟩
  simp only [Gm.byt, List.length_append]; omega
/-- A byte with some bits turned. -/
theorem xor_ne {c m : Int} (hc : 0 ≤ c ∧ c < 256) (hm : 0 ≤ m ∧ m < 255) : 0 ≤ bitsI .xor .u8 c (u8w (1 + m)) ∧ bitsI .xor .u8 c (u8w (1 + m)) < 256 ∧ bitsI .xor .u8 c (u8w (1 + m)) ≠ c := by
  rw [u8w_id (by omega) (by omega)]
  obtain ⟨a, rfl⟩ : ∃ n : Nat, c = n := ⟨c.toNat, by omega⟩
  obtain ⟨b, hb⟩ : ∃ n : Nat, 1 + m = n := ⟨(1 + m).toNat, by omega⟩
  rw [hb]
  have e : bitsI .xor .u8 (a : Int) (b : Int) = ((a ^^^ b : Nat) : Int) := by
    show IntKind.u8.wrap (((BitVec.ofInt 8 (a : Int) ^^^ BitVec.ofInt 8 (b : Int)).toNat : Nat) : Int) = _
    rw [BitVec.ofInt_natCast, BitVec.ofInt_natCast, BitVec.toNat_xor, BitVec.toNat_ofNat, BitVec.toNat_ofNat, Nat.mod_eq_of_lt (by omega), Nat.mod_eq_of_lt (by omega)]
    have : a ^^^ b < 2 ^ 8 := Nat.xor_lt_two_pow (by omega) (by omega)
    exact u8w_id (by omega) (by omega)
  have hlt : a ^^^ b < 2 ^ 8 := Nat.xor_lt_two_pow (by omega) (by omega)
  rw [e]
  refine ⟨by omega, by omega, fun h => ?_⟩
  have h' : a ^^^ b = a := by omega
  have h2 : a ^^^ (a ^^^ b) = a ^^^ a := by rw [h']
  rw [← Nat.xor_assoc, Nat.xor_self, Nat.zero_xor] at h2
  omega
theorem ok7 {l : List Int} (hl : l.length < 4611686018427387904) (pl at' by' : Int) : Ok Try.prog 7 [.slc (ints l) l.length, i64 pl, i64 at', i64 by'] [] (.ret (bl true)) [] := by
  refine ok_WI hm Try.func7 c7 (by simp) fun hcl => ?_
  rw [show i7 = .seq (IC.nth 0 i7) (.seq (IC.nth 1 i7) (.seq (IC.nth 2 i7) (.seq (IC.nth 3 i7) (.seq (IC.nth 4 i7) (IC.tl 5 i7))))) from rfl]
  obtain ⟨t5, ht5⟩ : ∃ t, IC.tl 5 i7 = t := ⟨_, rfl⟩
  obtain ⟨b4, hb4⟩ : ∃ t, IC.nth 4 i7 = t := ⟨_, rfl⟩
  obtain ⟨b3, hb3⟩ : ∃ t, IC.nth 3 i7 = t := ⟨_, rfl⟩
  obtain ⟨b2, hb2⟩ : ∃ t, IC.nth 2 i7 = t := ⟨_, rfl⟩
  rw [ht5, hb4, hb3, hb2]
  refine WI.seq (draw_ok hm) ?_
  simp -implicitDefEqProofs [IC.nth, i7]
  refine WI.seq (draw_ok hm) ?_
  simp -implicitDefEqProofs [IC.nth, i7]
  refine call_go (ok30 pl 4 (by omega) (by omega)) ?_
  have w1 : IntKind.i64.wrap (1 + pl % 4) = 1 + pl % 4 := wrap_id (by omega) (by omega)
  simp -implicitDefEqProofs [w1]
  refine call_goP (ok29 (H := []) (zero := false) hl (by omega) (by omega) (by omega) (by omega)) ?_
  rintro o H' ⟨g, hg, rfl, rfl⟩
  obtain ⟨hf, hlen⟩ := hg.len (by omega) (by omega) (by omega)
  obtain ⟨hgd, _⟩ := form0 hf
  simp -implicitDefEqProofs [Gm.cells]
  subst hb2
  refine WI.seq (draw_ok hm) ?_
  simp -implicitDefEqProofs [IC.nth, i7]
  have h11 := fun H => ok11k (H := H) hf
  simp only [Gm.cells] at h11
  refine call_go (h11 _) ?_
  simp -implicitDefEqProofs
  have hb : Oct (sealB g.byt) := Oct.app (Gm.byt_oct hgd) (tailB_oct _)
  have hrd := readG_seal hf hlen
  have hsl := sealB_len' g.byt
  obtain ⟨b, hbe⟩ : ∃ b, sealB g.byt = b := ⟨_, rfl⟩
  rw [hbe] at hb hrd hsl ⊢
  subst hb3 hb4
  have hbl : (byts b).length = b.length := by simp [byts]
  have htk : (byts b).take b.length = byts b := by rw [← hbl, List.take_length]
  refine WI.keep [2, 3, 9, 10, 11] ?_
  simp only [rwB]
  simp -implicitDefEqProofs
  refine WI.lend (draw_ok hm) [2, 3, 10] 1 3 (o := ⟨byts b, 5, 0, true⟩) rfl rfl rfl rfl ?_
  simp -implicitDefEqProofs [IC.nth, i7, htk, hbl]
  refine call_goP (okP24 hb (by omega)) ?_
  rintro o H' ⟨rfl, rfl⟩
  rw [hrd]
  simp -implicitDefEqProofs [gOf, fOf, Gm.cells]
  have h26 := fun H => ok26g (H := H) hgd
  simp only [Gm.cells] at h26
  refine callq_st (r := bl true) (fun _ => by simpa [SV.strip] using h26 _) ?_
  have hb0 : ¬ b.length = 0 := by omega
  have hb0' : ¬ (b.length : Int) = 0 := by omega
  simp -implicitDefEqProofs [htk, hbl, hb0, hb0']
  subst ht5
  refine WI.keep [2, 3, 8, 10, 13] (WI.of_X (draw_ok hm) ?_)
  have hv64 : ∀ n : Int, SV.isV (i64 n) = true := fun _ => rfl
  have hnv : ∀ n : Int, SV.nim 1 (i64 n) = i64 n := fun _ => rfl
  have hvs : ∀ (c : List SV) (n : Nat), SV.isV (.slc c n) = false := fun _ _ => rfl
  simp -implicitDefEqProofs [IC.tl, i7, get_lendE, SV.nim, hnv, lendH, AO.pl, AO.dead, hv64, hvs]
  refine call_go (ok30 at' b.length (by omega) (by omega)) ?_
  obtain ⟨k, hk⟩ : ∃ k : Nat, at' % (b.length : Int) = k := ⟨(at' % (b.length : Int)).toNat, by have := Int.emod_nonneg at' (show (b.length : Int) ≠ 0 by omega); omega⟩
  have hkl : k < b.length := by have := Int.emod_lt_of_pos at' (show (0 : Int) < b.length by omega); omega
  rw [hk]
  have hkc : k < (byts b).length := by rw [hbl]; exact hkl
  have hba := byts_at hkl
  simp -implicitDefEqProofs [htk, hbl, hkl, hkc, hba]
  have hm255 : 0 ≤ by' % 255 ∧ by' % 255 < 255 := by omega
  have hbk := hb _ (List.getElem_mem hkl)
  have hx := xor_ne hbk hm255
  have w2 : IntKind.i64.wrap (1 + by' % 255) = 1 + by' % 255 := wrap_id (by omega) (by omega)
  refine And.intro (by omega) (callq_go (fun _ => ok30 by' 255 (by omega) (by omega)) ?_)
  simp -implicitDefEqProofs [htk, hbl, hkl, hkc, hba, w2]
  refine And.intro (by omega) ?_
  change 0 ≤ bitsI .xor .u8 b[k] (u8w (1 + by' % 255)) ∧ _ at hx
  obtain ⟨v, hv⟩ : ∃ v, bitsI .xor .u8 b[k] (IntKind.u8.wrap (1 + by' % 255)) = v := ⟨_, rfl⟩
  have hx : 0 ≤ v ∧ v < 256 ∧ v ≠ b[k] := by rw [← hv]; exact hx
  rw [hv]
  have hst : List.take k (byts b) ++ u8 v :: List.drop (k + 1) (byts b) = byts (b.set k v) := by
    rw [byts, byts, List.map_set, List.set_eq_take_append_cons_drop, if_pos (by simpa using hkl)]
  rw [hst]
  obtain ⟨e, he, hre⟩ := readG_bad hb hrd hkl ⟨hx.1, hx.2.1⟩ hx.2.2
  have hb' : Oct (b.set k v) := fun x hx' => by
    rcases List.mem_or_eq_of_mem_set hx' with h | rfl
    · exact hb x h
    · exact ⟨hx.1, hx.2.1⟩
  have hbl2 : (byts (b.set k v)).length = b.length := by simp [byts]
  have htk2 : (byts (b.set k v)).take b.length = byts (b.set k v) := by rw [← hbl2, List.take_length]
  have h24 := fun H => okP24 (H := H) hb' (by simp; omega)
  simp only [List.length_set] at h24
  refine call_goP (OkP.give 1 1 (o := ⟨byts (b.set k v), 5, 0, true⟩) rfl rfl (OkP.cast (by simp [htk2, hbl2]) rfl (h24 _))) ?_
  rintro o H' ⟨rfl, rfl⟩
  rw [hre]
  simp -implicitDefEqProofs [gOf, fOf, Gm.cells, he]
  refine callq_go (fun _ => awake_w) ?_
  simp -implicitDefEqProofs [r7]
  have hcn : closed ([] : List AO) := by intro i o h; simp at h
  exact (show ∀ L, Cv 0 (bl true) L (bl true) [] from fun L => by simpa using cv_fz (n0 := 0) (H := []) (L := L) (r := bl true) (r1 := bl true) 1 hcn rfl (by simp)) _
end Go.Proofs.Ytoghpbjllompaaa.Rc

