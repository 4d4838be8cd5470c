/-
  Steps of the proof: contracts of functions and plain facts that the statement rests on.
-/
import Derived.Shelf.Strings.OnBuilder
import Derived.Shelf.Small.Strs
import Derived.Shelf.Strings.Count
import Derived.Shelf.Strings.LastIndex
import Derived.Shelf.Strings.Prefix
import Derived.Test.YtjbhokoihamhiaaDoorProg
import Derived.Test.YtjbhokoihamhiaaDoorIr06
import Derived.Test.YtjbhokoihamhiaaDoorCore5
import Derived.LaidEql
import Derived.Stop.Asserts
import Derived.RowKitTokens
set_option linter.all false
/- T1 -/
namespace Go.Proofs
open Go.Shelf
def Tryd.lays156_ren : Go.Shelf.Ren := ⟨fun | 156 => 33 | 165 => 47 | 166 => 48 | 169 => 49 | 240 => 57 | 241 => 58 | 276 => 66 | 277 => 67 | n => n, fun | 31 => 45 | 9 => 9 | 3 => 3 | 4 => 4 | 0 => 0 | 20 => 20 | 72 => 79 | 76 => 81 | 70 => 76 | 37 => 77 | 75 => 53 | 127 => 89 | 164 => 90 | 5 => 5 | 80 => 83 | n => n, fun | n => n⟩
theorem Tryd.lays156 : Go.Proofs.Lays.n156 Tryd.prog Tryd.lays156_ren := {
  mixed := by kernel_rfl
  f156 := Tryd.func33.trans (congrArg some (by kernel_rfl))
  f165 := Tryd.func47.trans (congrArg some (by kernel_rfl))
  f166 := Tryd.func48.trans (congrArg some (by kernel_rfl))
  f169 := Tryd.func49.trans (congrArg some (by kernel_rfl))
  f240 := Tryd.func57.trans (congrArg some (by kernel_rfl))
  f241 := Tryd.func58.trans (congrArg some (by kernel_rfl))
  f276 := Tryd.func66.trans (congrArg some (by kernel_rfl))
  f277 := Tryd.func67.trans (congrArg some (by kernel_rfl))
  t0 := Tryd.underlying0
  a0 := Tryd.isAgg0
  z0 := Tryd.sizeOf0
  v0 := Tryd.zeroValue0
  t3 := Tryd.underlying3
  a3 := Tryd.isAgg3
  z3 := Tryd.sizeOf3
  v3 := Tryd.zeroValue3
  t4 := Tryd.underlying4
  a4 := Tryd.isAgg4
  z4 := Tryd.sizeOf4
  v4 := Tryd.zeroValue4
  t9 := Tryd.underlying9
  a9 := Tryd.isAgg9
  z9 := Tryd.sizeOf9
  v9 := Tryd.zeroValue9
  t20 := Tryd.underlying20
  a20 := Tryd.isAgg20
  z20 := Tryd.sizeOf20
  v20 := Tryd.zeroValue20
  t31 := Tryd.underlying45
  a31 := Tryd.isAgg45
  z31 := Tryd.sizeOf45
  v31 := Tryd.zeroValue45
  t37 := Tryd.underlying77
  a37 := Tryd.isAgg77
  z37 := Tryd.sizeOf77
  v37 := Tryd.zeroValue77
  t70 := Tryd.underlying76
  a70 := Tryd.isAgg76
  z70 := Tryd.sizeOf76
  v70 := Tryd.zeroValue76
  t72 := Tryd.underlying79
  a72 := Tryd.isAgg79
  z72 := Tryd.sizeOf79
  v72 := Tryd.zeroValue79
  t75 := Tryd.underlying53
  a75 := Tryd.isAgg53
  z75 := Tryd.sizeOf53
  v75 := Tryd.zeroValue53
  t76 := Tryd.underlying81
  a76 := Tryd.isAgg81
  z76 := Tryd.sizeOf81
  v76 := Tryd.zeroValue81
  t127 := Tryd.underlying89
  a127 := Tryd.isAgg89
  z127 := Tryd.sizeOf89
  v127 := Tryd.zeroValue89
  t164 := Tryd.underlying90
  a164 := Tryd.isAgg90
  z164 := Tryd.sizeOf90
  v164 := Tryd.zeroValue90 }
theorem Tryd.Builder_Extra_156 : Builder.Extra Tryd.prog Tryd.lays156_ren := {
  sizeBuilder := by kernel_rfl
  liesBuilder := by kernel_rfl
  t5 := Tryd.underlying5
  a5 := Tryd.isAgg5
  z5 := Tryd.sizeOf5
  v5 := Tryd.zeroValue5
  infoByte := by kernel_rfl
  cellsByte := by kernel_rfl
  sizeByte := by kernel_rfl
  neB5 := by decide }
open Go.RowKit in
/-- No element: the empty string; the world is as it was. (Whatever the slice's address and capacity: a nil slice too.) (LAID: no walk: one application.) -/
theorem Tryd.strings_Join_none (a : Option Addr) (c : Nat) (sep : ByteArray) (w : World) :
    Calls Tryd.prog 33 #[.slice a 0 c, .string sep] w fun e w' => e = .returned (.string ⟨#[]⟩) ∧ w' = w := Any.strings_Join_none Tryd.lays156 Tryd.Builder_Extra_156 a c sep w
open Go.RowKit in
/-- strings.Join: "Join concatenates the elements of its first argument to create a single string. The separator string sep is placed between elements in the resulting string.": HOWEVER MANY ELEMENTS. Below the heap's end the world is as it was. (LAID: no walk: one application.) -/
theorem Tryd.strings_Join (bk o c : Nat) (xs : List ByteArray) (sep : ByteArray) (w : World) (hcells : ∀ (j : Nat) x, xs[j]? = some x → w.cell? ⟨bk, o + j, none⟩ = some (.string x)) (hbk : bk < w.heap.size) (hN : xs.length ≤ 140737488355328) (hcap : xs.length ≤ c) (hlen : (Lib.join (xs.map (·.data.toList)) sep.data.toList).length ≤ 140737488355328) :
    Calls Tryd.prog 33 #[.slice (some ⟨bk, o, none⟩) xs.length c, .string sep] w fun e w' => e = .returned (.string ⟨(Lib.join (xs.map (·.data.toList)) sep.data.toList).toArray⟩) ∧ Below w.heap.size w w' := Any.strings_Join Tryd.lays156 Tryd.Builder_Extra_156 bk o c xs sep w hcells hbk hN hcap hlen
def Tryd.lays137_ren : Go.Shelf.Ren := ⟨fun | 137 => 56 | 217 => 65 | 266 => 74 | n => n, fun | 9 => 9 | 5 => 5 | 3 => 3 | n => n, fun | n => n⟩
theorem Tryd.lays137 : Go.Proofs.Lays.n137 Tryd.prog Tryd.lays137_ren := {
  mixed := by kernel_rfl
  f137 := Tryd.func56.trans (congrArg some (by kernel_rfl))
  f217 := Tryd.func65.trans (congrArg some (by kernel_rfl))
  f266 := Tryd.func74.trans (congrArg some (by kernel_rfl))
  t3 := Tryd.underlying3
  a3 := Tryd.isAgg3
  z3 := Tryd.sizeOf3
  v3 := Tryd.zeroValue3
  t5 := Tryd.underlying5
  a5 := Tryd.isAgg5
  z5 := Tryd.sizeOf5
  v5 := Tryd.zeroValue5
  t9 := Tryd.underlying9
  a9 := Tryd.isAgg9
  z9 := Tryd.sizeOf9
  v9 := Tryd.zeroValue9 }
open Go.RowKit in
/-- strings.IndexByte: "IndexByte returns the index of the first instance of c in s, or -1 if c is not present in s.": IT RETURNS 'Lib.indexByte s c'; the world is as it was. (LAID: no walk: one application.) -/
theorem Tryd.strings_IndexByte (s : ByteArray) (c : Int) (w : World) :
    Calls Tryd.prog 56 #[.string s, .int .u8 c] w fun e w' => e = .returned (.int .i64 (Lib.indexByte s.data.toList c.toNat.toUInt8)) ∧ w' = w := Any.strings_IndexByte Tryd.lays137 s c w
def Tryd.lays138_ren : Go.Shelf.Ren := ⟨fun | 138 => 36 | 195 => 51 | 218 => 52 | 143 => 53 | 219 => 63 | 217 => 65 | 225 => 71 | 224 => 72 | 267 => 73 | 266 => 74 | 314 => 75 | n => n, fun | 9 => 9 | 3 => 3 | 4 => 4 | 5 => 5 | 0 => 0 | 46 => 119 | 146 => 121 | 51 => 120 | n => n, fun | 1 => 3 | n => n⟩
theorem Tryd.lays138 : Go.Proofs.Lays.n138 Tryd.prog Tryd.lays138_ren := {
  mixed := by kernel_rfl
  f138 := Tryd.func36.trans (congrArg some (by kernel_rfl))
  f143 := Tryd.func53.trans (congrArg some (by kernel_rfl))
  f195 := Tryd.func51.trans (congrArg some (by kernel_rfl))
  f217 := Tryd.func65.trans (congrArg some (by kernel_rfl))
  f218 := Tryd.func52.trans (congrArg some (by kernel_rfl))
  f219 := Tryd.func63.trans (congrArg some (by kernel_rfl))
  f224 := Tryd.func72.trans (congrArg some (by kernel_rfl))
  f225 := Tryd.func71.trans (congrArg some (by kernel_rfl))
  f266 := Tryd.func74.trans (congrArg some (by kernel_rfl))
  f267 := Tryd.func73.trans (congrArg some (by kernel_rfl))
  f314 := Tryd.func75.trans (congrArg some (by kernel_rfl))
  t0 := Tryd.underlying0
  a0 := Tryd.isAgg0
  z0 := Tryd.sizeOf0
  v0 := Tryd.zeroValue0
  t3 := Tryd.underlying3
  a3 := Tryd.isAgg3
  z3 := Tryd.sizeOf3
  v3 := Tryd.zeroValue3
  t4 := Tryd.underlying4
  a4 := Tryd.isAgg4
  z4 := Tryd.sizeOf4
  v4 := Tryd.zeroValue4
  t5 := Tryd.underlying5
  a5 := Tryd.isAgg5
  z5 := Tryd.sizeOf5
  v5 := Tryd.zeroValue5
  t9 := Tryd.underlying9
  a9 := Tryd.isAgg9
  z9 := Tryd.sizeOf9
  v9 := Tryd.zeroValue9
  t46 := Tryd.underlying119
  a46 := Tryd.isAgg119
  z46 := Tryd.sizeOf119
  v46 := Tryd.zeroValue119
  t51 := Tryd.underlying120
  a51 := Tryd.isAgg120
  z51 := Tryd.sizeOf120
  v51 := Tryd.zeroValue120
  t146 := Tryd.underlying121
  a146 := Tryd.isAgg121
  z146 := Tryd.sizeOf121
  v146 := Tryd.zeroValue121
  g1 := by kernel_rfl }
open Go.RowKit Go.Lib in
/-- strings.Count AT A substr OF ONE BYTE ('hp'): "Count counts the number of non-overlapping instances of substr in s.": IT RETURNS 'Lib.countByte s (that byte)'; the world is as it was. ✋ NO CONTRACT HERE YET at an empty substr (utf8.RuneCountInString) or at a longer one (a loop over strings.Index). (LAID: no walk: one application.) -/
theorem Tryd.strings_Count_one (s : ByteArray) (c : UInt8) (w : World) :
    Calls Tryd.prog 36 #[.string s, .string ⟨#[c]⟩] w fun e w' => e = .returned (.int .i64 (Lib.countByte s.data.toList c)) ∧ w' = w := Any.strings_Count_one Tryd.lays138 s c w
def Tryd.lays149_ren : Go.Shelf.Ren := ⟨fun | 149 => 37 | 222 => 54 | n => n, fun | 9 => 9 | 5 => 5 | 3 => 3 | 4 => 4 | n => n, fun | n => n⟩
theorem Tryd.lays149 : Go.Proofs.Lays.n149 Tryd.prog Tryd.lays149_ren := {
  mixed := by kernel_rfl
  f149 := Tryd.func37.trans (congrArg some (by kernel_rfl))
  f222 := Tryd.func54.trans (congrArg some (by kernel_rfl))
  t3 := Tryd.underlying3
  a3 := Tryd.isAgg3
  z3 := Tryd.sizeOf3
  v3 := Tryd.zeroValue3
  t4 := Tryd.underlying4
  a4 := Tryd.isAgg4
  z4 := Tryd.sizeOf4
  v4 := Tryd.zeroValue4
  t5 := Tryd.underlying5
  a5 := Tryd.isAgg5
  z5 := Tryd.sizeOf5
  v5 := Tryd.zeroValue5
  t9 := Tryd.underlying9
  a9 := Tryd.isAgg9
  z9 := Tryd.sizeOf9
  v9 := Tryd.zeroValue9 }
open Go.RowKit Go.Lib in
/-- strings.LastIndexByte: "LastIndexByte returns the index of the last instance of c in s, or -1 if c is not present in s." (LAID: no walk: one application.) -/
theorem Tryd.strings_LastIndexByte (s : ByteArray) (c : Int) (hs : s.size < 4611686018427387904) (w : World) :
    Calls Tryd.prog 37 #[.string s, .int .u8 c] w fun e w' => e = .returned (.int .i64 (Lib.lastIndexByte s c)) ∧ w' = w := Any.strings_LastIndexByte Tryd.lays149 s c hs w
def Tryd.lays99_ren : Go.Shelf.Ren := ⟨fun | 99 => 55 | 206 => 64 | n => n, fun | 9 => 9 | 4 => 4 | 3 => 3 | n => n, fun | n => n⟩
theorem Tryd.lays99 : Go.Proofs.Lays.n99 Tryd.prog Tryd.lays99_ren := {
  mixed := by kernel_rfl
  f99 := Tryd.func55.trans (congrArg some (by kernel_rfl))
  f206 := Tryd.func64.trans (congrArg some (by kernel_rfl))
  t3 := Tryd.underlying3
  a3 := Tryd.isAgg3
  z3 := Tryd.sizeOf3
  v3 := Tryd.zeroValue3
  t4 := Tryd.underlying4
  a4 := Tryd.isAgg4
  z4 := Tryd.sizeOf4
  v4 := Tryd.zeroValue4
  t9 := Tryd.underlying9
  a9 := Tryd.isAgg9
  z9 := Tryd.sizeOf9
  v9 := Tryd.zeroValue9 }
open Go.RowKit Go.Lib in
/-- strings.HasPrefix: "HasPrefix reports whether the string s begins with prefix.": IT RETURNS 'Lib.hasPrefix s prefix'; the world is as it was. (LAID: no walk: one application.) -/
theorem Tryd.strings_HasPrefix (s p : ByteArray) (w : World) :
    Calls Tryd.prog 55 #[.string s, .string p] w fun e w' => e = .returned (.bool (Lib.hasPrefix s.data.toList p.data.toList)) ∧ w' = w := Any.strings_HasPrefix Tryd.lays99 s p w
end Go.Proofs
/- T2 -/
namespace Go.Ab
open Go.RowKit
variable [GlobEnv]
variable {P : Program}
theorem ext_below {S : St} {w' : World} (h : Below S.w.heap.size S.w w') : Ext S.H.length S ⟨S.ρ, S.H, w'⟩ where
  obj := fun i p _ h => ⟨p, h, Nat.le_refl _, fun _ => rfl⟩
  imm := fun k hk hn => ⟨h.block k hk, hn⟩
  size := h.size
  shape := fun k T m hs => by
    have hk : k < S.w.heap.size := by
      rcases Nat.lt_or_ge k S.w.heap.size with h1 | h1
      · exact h1
      · unfold World.shape? at hs; rw [Array.getElem?_eq_none h1] at hs; cases hs
    unfold World.shape? at *
    rw [show (⟨S.ρ, S.H, w'⟩ : St).w = w' from rfl, h.block k hk]; exact hs
  loops := fun k r hk => ⟨r, by
    have hlt : k < S.w.heap.size := lt_heap hk
    exact (h.block k hlt).trans hk⟩
  os := h.os
  tape := h.tape
  output := h.output
theorem sim_below {S : St} (hS : Sim S) {w' : World} (h : Below S.w.heap.size S.w w') : Sim ⟨S.ρ, S.H, w'⟩ :=
  hS.step (ext_below h) (Nat.le_refl _) (fun i p hp => .inl ⟨hp, rfl, fun b hb hl => h.block b (hS.lt ⟨i, p, hp, hl, hb⟩)⟩) fun i j o o' b hi hj hl hl' h1 h2 => hS.inj i j o o' b hi hj hl hl' h1 h2
/-- A function of the library whose result is told. -/
theorem Ok.lib {f : FuncId} {args : List SV} {H : List AO} {r : Value} (he : ∀ (vs : Array Value) (w : World), (callFunc f vs).run P w = .ok (.enter f vs) w)
    (h : ∀ (S : St) (vs : List Value), Sim S → VRs S args vs → Calls P f vs.toArray S.w fun e w' => e = .returned r ∧ Below S.w.heap.size S.w w') : Ok P f args H (.ret (.val r)) H := by
  refine ⟨he, fun S vs hH hS hv => (h S vs hS hv).mono ?_⟩
  rintro e w' ⟨h1, h2⟩
  subst hH
  exact ⟨r, S.ρ, ext_below h2, sim_below hS h2, h1, .val r⟩
theorem VRs.two {S : St} {a b : Value} {vs : List Value} (h : VRs S [.val a, .val b] vs) : vs = [a, b] := by
  obtain ⟨h1, h2⟩ := h
  match vs, h1 with
  | [x, y], _ =>
    have hx := h2 0 _ x rfl rfl
    have hy := h2 1 _ y rfl rfl
    cases hx; cases hy; rfl
end Go.Ab
namespace Go.Proofs.YtjbhokoihamhiaaDoor
open Go.Ab Go.RowKit
theorem hm : Tryd.prog.follows .mixedOrders = true := Tryd.checked.mixed
/-- A text. -/
abbrev B (l : List UInt8) : ByteArray := ⟨l.toArray⟩
@[simp] theorem B_list (l : List UInt8) : (B l).data.toList = l := by simp [B]
@[simp] theorem B_size (l : List UInt8) : (B l).size = l.length := by simp [B, ByteArray.size]
theorem B_of (s : ByteArray) : s = B s.data.toList := by obtain ⟨⟨l⟩⟩ := s; rfl
@[simp] theorem B_ext (l : List UInt8) (a b : Nat) : (B l).extract a b = B ((l.drop a).take (b - a)) := by
  have h : ((B l).extract a b).data.toList = (l.drop a).take (b - a) := by
    simp [B, ByteArray.extract, ByteArray.copySlice, List.extract_eq_take_drop]
  rw [B_of ((B l).extract a b), h]
@[simp] theorem B_app (a b : List UInt8) : B a ++ B b = B (a ++ b) := by
  rw [B_of (B a ++ B b)]
  simp [B]
theorem B_inj {a b : List UInt8} : B a = B b ↔ a = b := ⟨fun h => by have := congrArg (fun s => s.data.toList) h; simpa using this, fun h => by rw [h]⟩
section
variable {H : List AO}
theorem ok55 (s p : List UInt8) : Ok Tryd.prog 55 [st (B s), st (B p)] H (.ret (bl (p.isPrefixOf s))) H :=
  Ok.lib (enters_of Tryd.func55 (by kernel_rfl) rfl) fun S vs _ hv => by
    rw [VRs.two hv]
    refine (Tryd.strings_HasPrefix (B s) (B p) S.w).mono ?_
    rintro e w' ⟨rfl, rfl⟩
    exact ⟨by simp [Lib.hasPrefix], Below.refl _ _⟩
theorem ok56 (s : List UInt8) (c : UInt8) : Ok Tryd.prog 56 [st (B s), .val (.int .u8 c.toNat)] H (.ret (i64 (Lib.indexByte s c))) H :=
  Ok.lib (enters_of Tryd.func56 (by kernel_rfl) rfl) fun S vs _ hv => by
    rw [VRs.two hv]
    refine (Tryd.strings_IndexByte (B s) c.toNat S.w).mono ?_
    rintro e w' ⟨rfl, rfl⟩
    exact ⟨by simp, Below.refl _ _⟩
theorem ok36 (s : List UInt8) (c : UInt8) : Ok Tryd.prog 36 [st (B s), st (B [c])] H (.ret (i64 (Lib.countByte s c))) H :=
  Ok.lib (enters_of Tryd.func36 (by kernel_rfl) rfl) fun S vs _ hv => by
    rw [VRs.two hv]
    refine (Tryd.strings_Count_one (B s) c S.w).mono ?_
    rintro e w' ⟨rfl, rfl⟩
    exact ⟨by simp, Below.refl _ _⟩
theorem ok37 (s : List UInt8) (c : UInt8) (hs : s.length < 4611686018427387904) : Ok Tryd.prog 37 [st (B s), .val (.int .u8 c.toNat)] H (.ret (i64 (Lib.lastIndexByte (B s) c.toNat))) H :=
  Ok.lib (enters_of Tryd.func37 (by kernel_rfl) rfl) fun S vs _ hv => by
    rw [VRs.two hv]
    refine (Tryd.strings_LastIndexByte (B s) c.toNat (by simpa using hs) S.w).mono ?_
    rintro e w' ⟨rfl, rfl⟩
    exact ⟨rfl, Below.refl _ _⟩
theorem ok33 (xs : List (List UInt8)) (sep : List UInt8) (hn : xs.length ≤ 140737488355328) (hj : (Lib.join xs sep).length ≤ 140737488355328) :
    Ok Tryd.prog 33 [.slc (xs.map fun s => st (B s)) xs.length, st (B sep)] H (.ret (st (B (Lib.join xs sep)))) H :=
  Ok.lib (enters_of Tryd.func33 (by kernel_rfl) rfl) fun S vs hS hv => by
    obtain ⟨h1, h2⟩ := hv
    match vs, h1 with
    | [x, y], _ =>
      have hx := h2 0 _ x rfl rfl
      have hy := h2 1 _ y rfl rfl
      cases hy
      have nope : ∀ (a : Option Addr) (cap : Nat), xs = [] → Calls Tryd.prog 33 #[.slice a 0 cap, .string (B sep)] S.w fun e w' => e = .returned (.string (B (Lib.join xs sep))) ∧ Below S.w.heap.size S.w w' := by
        rintro a cap rfl
        refine (Tryd.strings_Join_none a cap (B sep) S.w).mono ?_
        rintro e w' ⟨rfl, rfl⟩
        exact ⟨by simp [Lib.join, B], Below.refl _ _⟩
      generalize hcs : (xs.map fun s => st (B s)) = cs at hx
      generalize hlen : xs.length = n at hx
      cases hx with
      | nilslc =>
        have : xs = [] := List.eq_nil_of_length_eq_zero hlen
        exact nope none 0 this
      | slc _ _ a cap us hc hl hi h =>
        subst hcs hlen
        by_cases hne : xs = []
        · subst hne; exact nope _ _ rfl
        · obtain ⟨hi1, hi2⟩ := hi
          have hcells : ∀ (j : Nat) (x : ByteArray), (xs.map B)[j]? = some x → S.w.cell? (a.add j) = some (.string x) := by
            intro j x hj
            rw [List.getElem?_map, Option.map_eq_some_iff] at hj
            obtain ⟨s, hs, rfl⟩ := hj
            have h3 : (xs.map fun s => st (B s))[j]? = some (st (B s)) := by rw [List.getElem?_map, hs]; rfl
            have hlt : j < us.length := by rw [hl]; exact getElem?_lt h3
            have h4 := h j _ us[j] h3 (List.getElem?_eq_getElem hlt)
            have h5 : us[j] = .string (B s) := h4.isS rfl
            have := hi1 j us[j] (List.getElem?_eq_getElem hlt)
            rw [h5] at this; exact this
          have hsp : a.spot = none := by
            obtain ⟨s0, r0, rfl⟩ := List.exists_cons_of_ne_nil hne
            have := hcells 0 (B s0) rfl
            simp only [Addr.add, if_true] at this
            unfold World.cell? at this
            split at this
            · by_cases h : a.spot.isSome = true
              · rw [if_pos h] at this; cases this
              · simpa using h
            · cases this
          obtain ⟨bk, o, sp⟩ := a
          simp only at hsp
          subst hsp
          have hcells' : ∀ (j : Nat) (x : ByteArray), (xs.map B)[j]? = some x → S.w.cell? ⟨bk, o + j, none⟩ = some (.string x) := by
            intro j x hj
            have := hcells j x hj
            have e : ((⟨bk, o, none⟩ : Addr).add j) = ⟨bk, o + j, none⟩ := by unfold Addr.add; split <;> simp_all
            rw [e] at this; exact this
          have hbk : bk < S.w.heap.size := by
            obtain ⟨s0, r0, rfl⟩ := List.exists_cons_of_ne_nil hne
            have := hcells' 0 (B s0) rfl
            unfold World.cell? at this
            split at this
            · exact lt_heap (by assumption)
            · cases this
          have ej : ((xs.map B).map (·.data.toList)) = xs := by rw [List.map_map]; conv => rhs; rw [← List.map_id xs]
                                                                apply List.map_congr_left; intro l _; simp [B]
          have hcon := Tryd.strings_Join bk o cap (xs.map B) (B sep) S.w hcells' hbk (by simpa using hn) (by simpa using hc) (by rw [ej]; simpa using hj)
          rw [ej] at hcon
          simpa [B] using hcon
end
end Go.Proofs.YtjbhokoihamhiaaDoor
/- T3 -/
namespace Go.Proofs.YtjbhokoihamhiaaDoor
open Go.RowKit Go.Extern.Stop Go.Stop Go.Extern Go.Ab
abbrev tH (t : Nat) : Value := .pointer (some ⟨4, t, none⟩)
theorem valueOf85 (t : Addr) (w : World) : (ReflectliteValue.unpack (.iface 85 (.pointer (some t)))).run Tryd.prog w
    = .ok (.agg #[tH 85, .pointer (some ⟨w.heap.size, 0, none⟩), .int .u64 150]) (w.alloc (.cells #[.pointer (some t)] 85)) := by kernel_rfl
theorem type85 (a : Addr) (w : World) : (ReflectliteValue.methodAny (ReflectliteValue.valueError "reflectlite.Value.Type" 0) (fun t _ _ _ => ReflectliteType.toType t) #[.agg #[tH 85, .pointer (some a), .int .u64 150]]).run Tryd.prog w
    = .ok (.iface 105 (.agg #[tH 85])) w := by kernel_rfl
theorem methodKind (h : Value) (w : World) : (Go.method 250 105 (.agg #[h]) "Kind").run Tryd.prog w = .ok (90, h) w := by kernel_rfl
theorem kind85 (w : World) : ((ReflectliteType.abiMethod fun t => (fun a : Nat => Value.int IntKind.u8 (a : Int)) <$> Rtype.kind t) #[tH 85]).run Tryd.prog w = .ok (.int .u8 22) w := by kernel_rfl
theorem kind62 (w : World) : ((ReflectliteType.abiMethod fun t => (fun a : Nat => Value.int IntKind.u8 (a : Int)) <$> Rtype.kind t) #[tH 62]).run Tryd.prog w = .ok (.int .u8 25) w := by kernel_rfl
theorem rlm (z : Sem Value) (f : TypeId → Addr → Nat → Nat → Sem Value) (v : Value) :
    ReflectliteValue.method z f #[v] = (do match ← ReflectliteValue.parts v with | none => z | some (t, a, fl) => f t a fl (fl % 32)) := rfl
theorem parts85 (a : Addr) (w : World) : (ReflectliteValue.parts (.agg #[tH 85, .pointer (some a), .int .u64 150])).run Tryd.prog w = .ok (some (85, a, 150)) w := by kernel_rfl
theorem isNil85 (a p : Addr) (W : World) (ha : W.cell? a = some (.pointer (some p))) :
    (ReflectliteValue.method (ReflectliteValue.valueError "reflectlite.Value.IsNil" 0) ReflectliteValue.isNil #[.agg #[tH 85, .pointer (some a), .int .u64 150]]).run Tryd.prog W = .ok (.bool false) W := by
  rw [rlm]
  simp only [Sem.run_bind, parts85, Result.andThen]
  simp [ReflectliteValue.isNil, loadVar, isAgg, underlying, Tryd.underlying85, ha, Result.andThen]
theorem methodElem (h : Value) (w : World) : (Go.method 250 105 (.agg #[h]) "Elem").run Tryd.prog w = .ok (102, .agg #[h]) w := by kernel_rfl
theorem methodImplements (h : Value) (w : World) : (Go.method 250 105 (.agg #[h]) "Implements").run Tryd.prog w = .ok (103, .agg #[h]) w := by kernel_rfl
theorem methodAssignableTo (h : Value) (w : World) : (Go.method 250 105 (.agg #[h]) "AssignableTo").run Tryd.prog w = .ok (100, .agg #[h]) w := by kernel_rfl
theorem elem85 (w : World) : (ReflectliteType.method ReflectliteType.elem #[.agg #[tH 85]]).run Tryd.prog w = .ok (.iface 105 (.agg #[tH 62])) w := by kernel_rfl
theorem implements62 (w : World) : (ReflectliteType.relation "Implements" ReflectliteType.implements_ #[.agg #[tH 62], .iface 105 (.agg #[tH 53])]).run Tryd.prog w = .ok (.bool true) w := by kernel_rfl
theorem typeOf62 (v : Value) (w : World) : (ReflectliteType.typeOf #[.iface 62 v]).run Tryd.prog w = .ok (.iface 105 (.agg #[tH 62])) w := by kernel_rfl
theorem assignable62 (w : World) : (ReflectliteType.relation "AssignableTo" ReflectliteType.assignableTo #[.agg #[tH 62], .iface 105 (.agg #[tH 62])]).run Tryd.prog w = .ok (.bool true) w := by kernel_rfl
theorem valueOf62 (x y : Value) (w : World) : (ReflectliteValue.unpack (.iface 62 (.agg #[x, y]))).run Tryd.prog w
    = .ok (.agg #[tH 62, .pointer (some ⟨w.heap.size, 0, none⟩), .int .u64 153]) (w.alloc (.cells #[x, y] 62)) := by kernel_rfl
theorem elemOf85 (w : World) : (Rtype.elem? 85).run Tryd.prog w = .ok (some 62) w := by kernel_rfl
theorem mk62 (p : Addr) (w : World) : (ReflectliteValue.mk 62 p ReflectliteValue.flagAddr).run Tryd.prog w = .ok (.agg #[tH 62, .pointer (some p), .int .u64 409]) w := by kernel_rfl
theorem elemV85 (a p : Addr) (W : World) (ha : W.cell? a = some (.pointer (some p))) :
    (ReflectliteValue.method (ReflectliteValue.valueError "reflectlite.Value.Elem" 0) ReflectliteValue.elem #[.agg #[tH 85, .pointer (some a), .int .u64 150]]).run Tryd.prog W
      = .ok (.agg #[tH 62, .pointer (some p), .int .u64 409]) W := by
  rw [rlm]
  simp only [Sem.run_bind, parts85, Result.andThen]
  simp [ReflectliteValue.elem, loadVar, isAgg, underlying, Tryd.underlying85, ha, Result.andThen, elemOf85, mk62]
theorem rls (v x : Value) : ReflectliteValue.set #[v, x] = (do
    let (some (dst, a, fl), some (src, b, _)) := (← ReflectliteValue.parts v, ← ReflectliteValue.parts x)
      | unsupported (.noEntry "extern/(internal/reflectlite.Value).Set.zeroValue")
    if fl / ReflectliteValue.flagAddr % 2 == 0 then unsupported (.noEntry "extern/(internal/reflectlite.Value).Set.unaddressable")
    let val ← loadVar src b
    if ← Rtype.directlyAssignable dst src then storeVar dst a val
    else if ← Rtype.implements dst src then
      if (← Rtype.kind src) == 20 then
        match val with
        | .nilIface => unsupported (.noEntry "extern/reflectlite: a nil value of one interface type handed on as a value of another")
        | _ => storeVar dst a val
      else storeVar dst a (.iface src val)
    else panicString ("reflectlite.Set: value of type " ++ (← Rtype.spelt src) ++ " is not assignable to type " ++ (← Rtype.spelt dst))
    pure (.tuple #[])) := rfl
theorem parts62a (a : Addr) (w : World) : (ReflectliteValue.parts (.agg #[tH 62, .pointer (some a), .int .u64 409])).run Tryd.prog w = .ok (some (62, a, 409)) w := by kernel_rfl
theorem parts62 (a : Addr) (w : World) : (ReflectliteValue.parts (.agg #[tH 62, .pointer (some a), .int .u64 153])).run Tryd.prog w = .ok (some (62, a, 153)) w := by kernel_rfl
theorem direct62 (w : World) : (Rtype.directlyAssignable 62 62).run Tryd.prog w = .ok true w := by kernel_rfl
end Go.Proofs.YtjbhokoihamhiaaDoor
/- T4 -/
namespace Go.Proofs.YtjbhokoihamhiaaDoor
open Go.RowKit Go.Extern.Stop Go.Stop Go.Extern Go.Ab
/-- (Value).Set of a fault. -/
theorem set62 (bt : Nat) (b : Nat) (x y : Value) (W : World) (c : Array Value) (hb0 : W.cell? ⟨b, 0, none⟩ = some x) (hb1 : W.cell? ⟨b, 1, none⟩ = some y)
    (ht : W.heap[bt]? = some (.cells c 62 (0, 0))) (hc : 2 ≤ c.size) (hx : x.oneCell' = true) (hy : y.oneCell' = true) :
    (ReflectliteValue.set #[.agg #[tH 62, .pointer (some ⟨bt, 0, none⟩), .int .u64 409], .agg #[tH 62, .pointer (some ⟨b, 0, none⟩), .int .u64 153]]).run Tryd.prog W
      = .ok (.tuple #[]) { W with heap := W.heap.setIfInBounds bt (.cells ([x, y] ++ c.toList.drop 2).toArray 62 (0, 0)) } := by
  have hl := run_loadCells_list (P := Tryd.prog) W ⟨b, 0, none⟩ [x, y] (by
    intro j v hj
    match j with
    | 0 => simp at hj; subst hj; simpa [Addr.add] using hb0
    | 1 => simp at hj; subst hj; simpa [Addr.add] using hb1
    | j + 2 => simp at hj)
  have hs := run_storeCells_at Tryd.prog bt 0 62 [x, y] 0 c W ht (by simpa using hc) (by
    intro v hv
    simp at hv
    rcases hv with rfl | rfl
    · exact hx
    · exact hy)
  rw [setRow_eq W bt _ _ 62 (0, 0) ht] at hs
  rw [rls]
  simp only [Sem.run_bind, parts62a, parts62, Result.andThen]
  have hag : (isAgg 62).run Tryd.prog W = .ok true W := by simp [isAgg, underlying, Tryd.underlying62]
  have hsz : (sizeOf 62).run Tryd.prog W = .ok 2 W := Tryd.sizeOf62 W
  simp only [List.length_cons, List.length_nil] at hl
  simp [ReflectliteValue.flagAddr, loadVar, hag, hsz, hl, Result.andThen, direct62, storeVar, Value.cells, hs]
/-- The world behind errors.As, but for the target. -/
def asW (w : World) (t : Addr) (x y : Value) : World :=
  (((w.alloc (.cells #[.pointer (some t)] 85)).alloc (.cells #[tH 85, .pointer (some ⟨w.heap.size, 0, none⟩), .int .u64 150] 93)).alloc (.cells #[tH 85, .pointer (some ⟨w.heap.size, 0, none⟩), .int .u64 150] 93)).alloc (.cells #[x, y] 62)
set_option maxHeartbeats 4000000 in
theorem as_hit (bt : Nat) (x y : Value) (c : Array Value) (w : World) (hg : w.cell? ⟨2, 0, none⟩ = some (.iface 105 (.agg #[tH 53]))) (ht : w.heap[bt]? = some (.cells c 62 (0, 0))) (hc : 2 ≤ c.size)
    (hx : x.oneCell' = true) (hy : y.oneCell' = true) :
    Calls Tryd.prog 50 #[.iface 62 (.agg #[x, y]), .iface 85 (.pointer (some ⟨bt, 0, none⟩))] w fun ev w' => ev = .returned (.bool true) ∧
      w' = { asW w ⟨bt, 0, none⟩ x y with heap := (asW w ⟨bt, 0, none⟩ x y).heap.setIfInBounds bt (.cells ([x, y] ++ c.toList.drop 2).toArray 62 (0, 0)) } := by
  have h6 := @run_callFunc_extern Tryd.prog 59 _ (fun args => ReflectliteValue.unpack (args.getD 0 (.tuple #[]))) Tryd.func59 (by kernel_rfl) (by kernel_rfl) (by kernel_rfl) (by kernel_rfl)
  have h7 := @run_callFunc_extern Tryd.prog 60 _ (ReflectliteValue.methodAny (ReflectliteValue.valueError "reflectlite.Value.Type" 0) (fun t _ _ _ => ReflectliteType.toType t)) Tryd.func60 (by kernel_rfl) (by kernel_rfl) (by kernel_rfl) (by kernel_rfl)
  have h8 := @run_callFunc_extern Tryd.prog 61 _ (ReflectliteValue.method (ReflectliteValue.valueError "reflectlite.Value.IsNil" 0) ReflectliteValue.isNil) Tryd.func61 (by kernel_rfl) (by kernel_rfl) (by kernel_rfl) (by kernel_rfl)
  have h27 := @run_callFunc_extern Tryd.prog 90 _ (ReflectliteType.abiMethod fun t => do pure (.int .u8 (← Rtype.kind t))) Tryd.func90 (by kernel_rfl) (by kernel_rfl) (by kernel_rfl) (by kernel_rfl)
  have h37 := @run_callFunc_extern Tryd.prog 102 _ (ReflectliteType.method ReflectliteType.elem) Tryd.func102 (by kernel_rfl) (by kernel_rfl) (by kernel_rfl) (by kernel_rfl)
  have h38 := @run_callFunc_extern Tryd.prog 103 _ (ReflectliteType.relation "Implements" ReflectliteType.implements_) Tryd.func103 (by kernel_rfl) (by kernel_rfl) (by kernel_rfl) (by kernel_rfl)
  have h10 := @run_callFunc_extern Tryd.prog 68 _ ReflectliteType.typeOf Tryd.func68 (by kernel_rfl) (by kernel_rfl) (by kernel_rfl) (by kernel_rfl)
  have h35 := @run_callFunc_extern Tryd.prog 100 _ (ReflectliteType.relation "AssignableTo" ReflectliteType.assignableTo) Tryd.func100 (by kernel_rfl) (by kernel_rfl) (by kernel_rfl) (by kernel_rfl)
  have h11 := @run_callFunc_extern Tryd.prog 69 _ (ReflectliteValue.method (ReflectliteValue.valueError "reflectlite.Value.Elem" 0) ReflectliteValue.elem) Tryd.func69 (by kernel_rfl) (by kernel_rfl) (by kernel_rfl) (by kernel_rfl)
  have h12 := @run_callFunc_extern Tryd.prog 70 _ ReflectliteValue.set Tryd.func70 (by kernel_rfl) (by kernel_rfl) (by kernel_rfl) (by kernel_rfl)
  have tO := typeOf62
  have mA := methodAssignableTo
  have a25 := assignable62
  have v25 := valueOf62
  have f6 := valueOf85
  have f7 := type85
  have mK := methodKind
  have mE := methodElem
  have mI := methodImplements
  have k27 := kind85
  have k25 := kind62
  have e27 := elem85
  have i25 := implements62
  have hbt : bt < w.heap.size := lt_heap ht
  have n8 := isNil85 ⟨w.heap.size, 0, none⟩ ⟨bt, 0, none⟩ ((w.alloc (.cells #[.pointer (some ⟨bt, 0, none⟩)] 85)).alloc (.cells #[tH 85, .pointer (some ⟨w.heap.size, 0, none⟩), .int .u64 150] 93)) (by simp)
  have hlt : 2 < w.heap.size := by
    rcases Nat.lt_or_ge 2 w.heap.size with h | h
    · exact h
    · simp [World.cell?, Array.getElem?_eq_none h] at hg
  have hg2 : ((w.alloc (.cells #[.pointer (some ⟨bt, 0, none⟩)] 85)).alloc (.cells #[tH 85, .pointer (some ⟨w.heap.size, 0, none⟩), .int .u64 150] 93)).cell? ⟨2, 0, none⟩ = some (.iface 105 (.agg #[tH 53])) := by
    rw [World.cell?_alloc_lt _ _ ⟨2, 0, none⟩ (by simp; omega), World.cell?_alloc_lt _ _ ⟨2, 0, none⟩ hlt]; exact hg
  have el := elemV85 ⟨w.heap.size, 0, none⟩ ⟨bt, 0, none⟩ (((w.alloc (.cells #[.pointer (some ⟨bt, 0, none⟩)] 85)).alloc (.cells #[tH 85, .pointer (some ⟨w.heap.size, 0, none⟩), .int .u64 150] 93)).alloc (.cells #[tH 85, .pointer (some ⟨w.heap.size, 0, none⟩), .int .u64 150] 93)) (by rw [World.cell?_alloc_lt _ _ ⟨w.heap.size, 0, none⟩ (by simp; omega)]; simp)
  have hold : ∀ (o1 o2 o3 o4 : Obj), ((((w.alloc o1).alloc o2).alloc o3).alloc o4).heap[bt]? = some (.cells c 62 (0, 0)) := by
    intro o1 o2 o3 o4
    rw [heap_alloc_lt _ _ (by simp; omega), heap_alloc_lt _ _ (by simp; omega), heap_alloc_lt _ _ (by simp; omega), heap_alloc_lt _ _ hbt]; exact ht
  have st := set62 bt (w.heap.size + 1 + 1 + 1) x y (asW w ⟨bt, 0, none⟩ x y) c
    (by unfold asW; rw [World.cell?_alloc_at _ _ _ _ (by simp)]; rfl) (by unfold asW; rw [World.cell?_alloc_at _ _ _ _ (by simp)]; rfl) (hold _ _ _ _) hc hx hy
  unfold asW at st ⊢
  go_enter Tryd.func50, Tryd.ntmps50
  go_wp2
  refine wp_loop_rounds 1 ?_
  rw [rounds_succ]
  go_wp2
  go_ret
  exact ⟨rfl, rfl⟩
end Go.Proofs.YtjbhokoihamhiaaDoor
/- T5 -/
namespace Go.Proofs.YtjbhokoihamhiaaDoor
open Go.RowKit Go.Ab
theorem ext_alloc' {S : St} {w : World} {o : Obj} (h : Ext S.H.length S ⟨S.ρ, S.H, w⟩) : Ext S.H.length S ⟨S.ρ, S.H, w.alloc o⟩ := h.trans (ext_alloc (S := ⟨S.ρ, S.H, w⟩) o)
section
variable {H : List AO}
theorem ok50 {j : Nat} {a b : SV} (ho : H[j]? = some ⟨[a, b], 62, 0, true⟩) (e p : Int) :
    Ok Tryd.prog 50 [.ifc 62 (.agg [i64 e, i64 p]), .ifc 85 (.ptr (.own j 0 0 0 0) 0)] H (.ret (bl true)) (H.set j ⟨[i64 e, i64 p], 62, 0, true⟩) := by
  refine ⟨enters_of Tryd.func50 (by kernel_rfl) rfl, fun S vs hH hS hv => ?_⟩
  subst hH
  obtain ⟨h1, h2⟩ := hv
  match vs, h1 with
  | [x, y], _ =>
    have hx := h2 0 _ x rfl rfl
    have hy := h2 1 _ y rfl rfl
    cases hx with
    | ifc _ _ v hv =>
    cases hy with
    | ifc _ _ u hu =>
    obtain ⟨us, rfl, hus⟩ := hv.agg_inv
    cases hu with
    | ptrO _ _ _ _ _ _ ad o ho' hvl hat =>
    rw [ho] at ho'; cases ho'
    obtain ⟨bt, hb, had⟩ := hat rfl
    obtain ⟨h3, h4⟩ := hus
    match us, h3 with
    | [x, y], _ =>
      have hx := h4 0 _ x rfl rfl
      have hy := h4 1 _ y rfl rfl
      cases hx; cases hy
      have hlv := hS.live j _ ho rfl
      rw [hb] at hlv
      obtain ⟨us0, rest, hh, hvr⟩ := hlv
      have hl2 : us0.length = 2 := hvr.1
      have hg : S.w.cell? ⟨2, 0, none⟩ = some (.iface 105 (.agg #[tH 53])) := by
        have := (hS.gl 2 _ rfl).1 0 _ rfl
        simpa [Addr.add] using this
      subst had
      refine (as_hit bt (.int .i64 e) (.int .i64 p) _ S.w hg hh (by simp; omega) rfl rfl).mono ?_
      rintro ev w' ⟨rfl, rfl⟩
      have s1 := sim_alloc (sim_alloc (sim_alloc (sim_alloc hS (.cells #[.pointer (some ⟨bt, 0, none⟩)] 85)) (.cells #[tH 85, .pointer (some ⟨S.w.heap.size, 0, none⟩), .int .u64 150] 93)) (.cells #[tH 85, .pointer (some ⟨S.w.heap.size, 0, none⟩), .int .u64 150] 93)) (.cells #[.int .i64 e, .int .i64 p] 62)
      have e1 : Ext S.H.length S ⟨S.ρ, S.H, asW S.w ⟨bt, 0, none⟩ (.int .i64 e) (.int .i64 p)⟩ := ext_alloc' (ext_alloc' (ext_alloc' (ext_alloc _)))
      have hbt : bt < S.w.heap.size := lt_heap hh
      have hold : (asW S.w ⟨bt, 0, none⟩ (.int .i64 e) (.int .i64 p)).heap[bt]? = some (.cells (us0 ++ rest).toArray 62 (0, 0)) := by
        unfold asW
        rw [heap_alloc_lt _ _ (by simp; omega), heap_alloc_lt _ _ (by simp; omega), heap_alloc_lt _ _ (by simp; omega), heap_alloc_lt _ _ hbt]; exact hh
      have hd : (us0 ++ rest).toArray.toList.drop 2 = rest := by simp [← hl2]
      obtain ⟨s2, e2⟩ := sim_put (S := ⟨S.ρ, S.H, asW S.w ⟨bt, 0, none⟩ (.int .i64 e) (.int .i64 p)⟩) s1 (i := j) (o := ⟨[a, b], 62, 0, true⟩) (b := bt) ho rfl hb (cells := [i64 e, i64 p]) (ver := 0) (Nat.le_refl _)
        (us := [.int .i64 e, .int .i64 p]) (rest := rest) hold (by simp; omega) (VRs.cons (.val _) (VRs.cons (.val _) (VRs.nil _))) (by
          intro s hs
          simp at hs
          rcases hs with rfl | rfl <;> exact ⟨rfl, rfl⟩) (w' := _) rfl
      exact ⟨.bool true, S.ρ, e1.trans (by simpa [hd] using e2), by simpa [hd] using s2, rfl, .val _⟩
end
end Go.Proofs.YtjbhokoihamhiaaDoor
/- T6 -/
namespace Go.Proofs.YtjbhokoihamhiaaDoor
open Go.Ab
def fltV (e p : Int) : SV := .agg [i64 e, i64 p]
def blkB (c : Nat) : Bool := blanksL.getD c false
def sgnB (c : Nat) : Bool := signsL.getD c false
def ltrB (c : Nat) : Bool := decide (97 ≤ c ∧ c ≤ 122 ∨ 65 ≤ c ∧ c ≤ 90 ∨ c = 95)
def dgtB (c : Nat) : Bool := decide (48 ≤ c ∧ c ≤ 57)
/-- The class of a byte. -/
def cls (c : Nat) : Int := if c < 33 ∧ blkB c = true then 1 else if ltrB c = true then 2 else if dgtB c = true then 3 else if c < 126 ∧ sgnB c = true then 4 else 0
set_option maxRecDepth 100000
section
variable {H : List AO}
theorem ok34 (e p : Int) : Ok Tryd.prog 34 [.ifc 62 (fltV e p)] H (.ret (fltV e p)) H := by
  refine ok_fn hm Tryd.func34 c34 (by simp) fun hcl => ?_
  simp -implicitDefEqProofs [i34, r34, fltV]
  refine call_go (ok50 (j := H.length + 1) (a := i64 0) (b := i64 0) (by simp) e p) ?_
  simp -implicitDefEqProofs [set_app]
  refine cv_fz 4 hcl rfl ?_
  simp
theorem gv0_at {n : Nat} (h : n < 33) : (gv0.drop n).headD .any = bl (blkB n) := by
  unfold gv0 blkB
  have : n < blanksL.length := h
  rw [List.drop_eq_getElem_cons (by simpa using this)]
  simp [this]
theorem gv1_at {n : Nat} (h : n < 126) : (gv1.drop n).headD .any = bl (sgnB n) := by
  unfold gv1 sgnB
  have : n < signsL.length := h
  rw [List.drop_eq_getElem_cons (by simpa using this)]
  simp [this]
theorem gv0_get {n : Nat} (h : n < 33) : gv0[n]?.getD .any = bl (blkB n) := by
  have : n < blanksL.length := h
  simp only [gv0, blkB, List.getElem?_map, List.getD_eq_getElem?_getD, List.getElem?_eq_getElem this, Option.map_some, Option.getD_some]
theorem gv1_get {n : Nat} (h : n < 126) : gv1[n]?.getD .any = bl (sgnB n) := by
  have : n < signsL.length := h
  simp only [gv1, sgnB, List.getElem?_map, List.getD_eq_getElem?_getD, List.getElem?_eq_getElem this, Option.map_some, Option.getD_some]
theorem gv0_len : gv0.length = 33 := rfl
theorem gv1_len : gv1.length = 126 := rfl
theorem ok26n (n : Nat) (hn : n < 256) : Ok Tryd.prog 26 [u8 n] H (.ret (i64 (cls n))) H := by
  refine ok_fn hm Tryd.func26 c26 (by simp) fun hcl => ?_
  have w : IntKind.i64.wrap (n : Int) = n := wrap_id (by omega) (by omega)
  have key : ∀ {v : Int}, cls n = v → Cv H.length (i64 v) H (i64 (cls n)) H := fun h => by rw [h]; exact cv_id
  simp -implicitDefEqProofs [i26, r26]
  simp only [w, gv0_len, gv1_len]
  refine ⟨by omega, by omega, fun h => ⟨h, by rw [gv0_get (by omega)]; rfl⟩, ?_⟩
  split
  · rename_i h
    have h1 : n < 33 := by omega
    rw [gv0_get h1] at h
    exact key (by unfold cls; rw [if_pos ⟨h1, h.2⟩])
  · rename_i h
    have n1 : ¬ (n < 33 ∧ blkB n = true) := fun h1 => h ⟨by omega, by rw [gv0_get h1.1]; exact h1.2⟩
    refine ⟨by omega, by omega, by omega, ?_⟩
    split
    · rename_i h2
      exact key (by unfold cls; rw [if_neg n1, if_pos (by simp [ltrB]; omega)])
    · rename_i h2
      have n2 : ¬ ltrB n = true := by simp [ltrB]; omega
      split
      · rename_i h3
        exact key (by unfold cls; rw [if_neg n1, if_neg n2, if_pos (by simp [dgtB]; omega)])
      · rename_i h3
        have n3 : ¬ dgtB n = true := by simp [dgtB]; omega
        refine ⟨by omega, by omega, fun h => ⟨h, by rw [gv1_get (by omega)]; rfl⟩, ?_⟩
        split
        · rename_i h4
          have h5 : n < 126 := by omega
          rw [gv1_get h5] at h4
          exact key (by unfold cls; rw [if_neg n1, if_neg n2, if_neg n3, if_pos ⟨h5, h4.2⟩])
        · rename_i h4
          have n4 : ¬ (n < 126 ∧ sgnB n = true) := fun h1 => h4 ⟨by omega, by rw [gv1_get h1.1]; exact h1.2⟩
          exact key (by unfold cls; rw [if_neg n1, if_neg n2, if_neg n3, if_neg n4])
theorem ok26 (c : UInt8) : Ok Tryd.prog 26 [u8 c.toNat] H (.ret (i64 (cls c.toNat))) H := ok26n c.toNat c.toNat_lt
end
end Go.Proofs.YtjbhokoihamhiaaDoor
/- T7 -/
namespace Go.Proofs.YtjbhokoihamhiaaDoor
open Go.Ab
theorem wrap_suc {i : Nat} (h : i < 9223372036854775807) : IntKind.i64.wrap ((i : Int) + 1) = ((i + 1 : Nat) : Int) := wrap_succ (by omega)
/-- The class of the byte at a place. -/
def cAt (l : List UInt8) (i : Nat) : Int := cls (l.getD i 0).toNat
def runN (l : List UInt8) (cs : List Int) : Nat → Nat → Nat
  | 0, e => e
  | n + 1, e => if e < l.length ∧ cAt l e ∈ cs then runN l cs n (e + 1) else e
/-- Where a run that begins at e ends. -/
def runE (l : List UInt8) (cs : List Int) (e : Nat) : Nat := runN l cs (l.length - e) e
theorem runE_step {l : List UInt8} {cs : List Int} {e : Nat} (h : e < l.length) (hc : cAt l e ∈ cs) : runE l cs e = runE l cs (e + 1) := by
  unfold runE
  rw [show l.length - e = (l.length - (e + 1)) + 1 by omega]
  simp [runN, h, hc]
theorem runE_stop {l : List UInt8} {cs : List Int} {e : Nat} (h : ¬ (e < l.length ∧ cAt l e ∈ cs)) : runE l cs e = e := by
  unfold runE
  cases l.length - e with
  | zero => rfl
  | succ n => simp [runN]; intro h1 h2; exact absurd ⟨h1, h2⟩ h
theorem runN_le {l : List UInt8} {cs : List Int} : ∀ (n e : Nat), e ≤ runN l cs n e
  | 0, e => Nat.le_refl _
  | n + 1, e => by
    simp only [runN]; split
    · exact Nat.le_trans (by omega) (runN_le n (e + 1))
    · exact Nat.le_refl _
theorem runE_le {l : List UInt8} {cs : List Int} (e : Nat) : e ≤ runE l cs e := runN_le _ _
theorem runN_len {l : List UInt8} {cs : List Int} : ∀ (n e : Nat), e ≤ l.length → runN l cs n e ≤ l.length
  | 0, e, h => h
  | n + 1, e, h => by
    simp only [runN]; split
    · exact runN_len n (e + 1) (by omega)
    · exact h
theorem runE_len {l : List UInt8} {cs : List Int} {e : Nat} (h : e ≤ l.length) : runE l cs e ≤ l.length := runN_len _ _ h
section
variable {H : List AO} {x : SV} {cs : List Int} {l : List UInt8}
theorem loop39_1 (hx : IsI H x cs) (hl : l.length < 4611686018427387904) (hcl : cs.length < 4611686018427387904) {e : Nat} (he : e < l.length) {N : Nat} {K : XE → Env → List AO → Prop}
    (hyes : cAt l e ∈ cs → ∀ env, env.get 0 = st (B l) → env.get 2 = x → env.get 7 = i64 ((e + 1 : Nat) : Int) → K (.exit 1) env H)
    (hno : cAt l e ∉ cs → ∀ env, env.get 0 = st (B l) → env.get 2 = x → env.get 7 = i64 e → K (.exit 2) env H) :
    ∀ (k i : Nat) (env : Env), i + k = cs.length → cAt l e ∉ cs.take i → env.get 0 = st (B l) → env.get 2 = x → env.get 7 = i64 e → env.get 15 = x → env.get 16 = i64 cs.length → env.get 17 = i64 i →
      LI Tryd.prog N drawB l39_1 env H K := by
  intro k
  induction k with
  | zero =>
    intro i env hi hn h0 h2 h7 h15 h16 h17
    refine li_go hm l39_1.eq_1 ?_
    have e : i = cs.length := by omega
    subst e
    rw [List.take_length] at hn
    simp -implicitDefEqProofs [h0, h2, h7, h15, h16, h17]
    exact hno hn _ (by simp [h0]) (by simp [h2]) (by simp [h7])
  | succ k ih =>
    intro i env hi hn h0 h2 h7 h15 h16 h17
    refine li_go hm l39_1.eq_1 ?_
    have hlt : i < cs.length := by omega
    have hca : cls l[e].toNat = cAt l e := by simp [cAt, he]
    simp -implicitDefEqProofs [h0, h2, h7, h15, h16, h17, hlt, hx.vd, hx.ug, hx.sl, hx.len, hx.v hlt, hx.ok hlt, he]
    refine call_go (ok26 l[e]) ?_
    simp -implicitDefEqProofs [h0, h2, h7, h15, h16, h17, hca]
    by_cases hc : cAt l e = cs[i]
    · simp -implicitDefEqProofs [h0, h2, h7, h15, h16, h17, hc]
      refine hyes (by rw [hc]; exact List.getElem_mem hlt) _ (by simp [h0]) (by simp [h2]) ?_
      simp [wrap_suc (show e < 9223372036854775807 by omega)]
    · simp -implicitDefEqProofs [h0, h2, h7, h15, h16, h17, hc, wrap_suc (show i < 9223372036854775807 by omega)]
      refine ih (i + 1) _ (by omega) ?_ (by simp [h0]) (by simp [h2]) (by simp [h7]) (by simp [h15]) (by simp [h16]) (by simp)
      rw [List.take_succ_eq_append_getElem hlt]
      intro hm
      rcases List.mem_append.1 hm with h | h
      · exact hn h
      · exact hc (List.mem_singleton.1 h)
theorem loop39_0 (hx : IsI H x cs) (hl : l.length < 4611686018427387904) (hcl : cs.length < 4611686018427387904) {N : Nat} {K : XE → Env → List AO → Prop} {e0 : Nat}
    (hexit : ∀ env, env.get 7 = i64 (runE l cs e0) → K (.exit 0) env H) :
    ∀ (k e : Nat) (env : Env), e + k = l.length → runE l cs e = runE l cs e0 → env.get 0 = st (B l) → env.get 2 = x → env.get 7 = i64 e → LI Tryd.prog N drawB l39_0 env H K := by
  intro k
  induction k with
  | zero =>
    intro e env he hr h0 h2 h7
    refine li_go hm l39_0.eq_1 ?_
    have h : e = l.length := by omega
    have hs := runE_stop (l := l) (cs := cs) (e := e) (by omega)
    rw [hs] at hr
    simp -implicitDefEqProofs [h0, h2, h7, h]
    exact hexit _ (by simp [h7]; rw [← hr, h])
  | succ k ih =>
    intro e env he hr h0 h2 h7
    refine li_go hm l39_0.eq_1 ?_
    have hlt : e < l.length := by omega
    simp -implicitDefEqProofs [h0, h2, h7, hlt, hx.vd, hx.ug, hx.sl, hx.len]
    refine loop39_1 hx hl hcl hlt (fun hc env g0 g2 g7 => ?_) (fun hc env g0 g2 g7 => ?_) cs.length 0 _ (by omega) (by simp) ?_ ?_ ?_ ?_ ?_ ?_
    · simp -implicitDefEqProofs
      exact ih (e + 1) _ (by omega) (by rw [← hr]; exact (runE_step hlt hc).symm) (by simp [g0]) (by simp [g2]) (by simp [g7])
    · simp -implicitDefEqProofs
      have hs := runE_stop (l := l) (cs := cs) (e := e) (fun h => hc h.2)
      rw [hs] at hr
      exact hexit _ (by simp [g7]; rw [← hr])
    all_goals simp [h0, h2, h7]
theorem ok39 (hx : IsI H x cs) (hl : l.length < 4611686018427387904) (hcs : cs.length < 4611686018427387904) {e : Nat} (he : e ≤ l.length) : Ok Tryd.prog 39 [st (B l), i64 e, x] H (.ret (i64 (runE l cs e))) H := by
  refine ok_fn hm Tryd.func39 c39 (by simp) fun hcl => ?_
  simp -implicitDefEqProofs [i39, r39]
  refine loop39_0 hx hl hcs (e0 := e) (fun env g7 => ?_) (l.length - e) e _ (by omega) rfl (by simp) (by simp) (by simp)
  simp -implicitDefEqProofs [g7]
  exact cv_id
end
end Go.Proofs.YtjbhokoihamhiaaDoor
/- T8 -/
namespace Go.Proofs.YtjbhokoihamhiaaDoor
open Go.Ab
/-- The signs of two bytes. -/
def dbls : List (List UInt8) := [[61, 61], [33, 61], [60, 61], [62, 61], [46, 46]]
def isDbl (r : List UInt8) : Bool := dbls.any fun p => p.isPrefixOf r
/-- Where the sign at e ends. -/
def signE (l : List UInt8) (e : Nat) : Nat := if isDbl (l.drop e) = true then e + 2 else if l.getD e 0 = 33 ∨ l.getD e 0 = 46 then e else e + 1
/-- Where the comment at e ends. -/
def comE : List UInt8 → Nat
  | [] => 0
  | c :: r => if c = 10 then 0 else comE r + 1
theorem comE_le : ∀ l : List UInt8, comE l ≤ l.length
  | [] => Nat.le_refl _
  | c :: r => by
    have := comE_le r
    simp only [comE, List.length_cons]
    split <;> omega
theorem index_com : ∀ l : List UInt8, Lib.indexByte l 10 = if comE l < l.length then (comE l : Int) else -1
  | [] => by simp [Lib.indexByte, comE]
  | c :: r => by
    have ih := index_com r
    simp only [Lib.indexByte, comE, List.length_cons]
    by_cases h : c = 10
    · simp [h]
    · simp only [h, if_false, beq_iff_eq]
      rw [ih]
      by_cases h2 : comE r < r.length
      · simp [h2]
      · simp [h2]
theorem u8i (c d : UInt8) : ((c.toNat : Int) = (d.toNat : Int)) ↔ c = d := ⟨fun h => UInt8.toNat_inj.1 (by omega), fun h => by rw [h]⟩
section
variable {H : List AO} {l : List UInt8}
theorem loop40 {r : List UInt8} {e : Nat} {N : Nat} {K : XE → Env → List AO → Prop}
    (hyes : isDbl r = true → ∀ env, env.get 4 = i64 (IntKind.i64.wrap ((e : Int) + 2)) → K .ret env H)
    (hno : isDbl r = false → ∀ env, env.get 1 = i64 e → env.get 5 = st (B r) → K (.exit 0) env H) :
    ∀ (k i : Nat) (env : Env), i + k = 5 → (∀ p ∈ dbls.take i, p.isPrefixOf r = false) → env.get 1 = i64 e → env.get 5 = st (B r) → env.get 11 = .agg (dbls.map fun s => st (B s)) → env.get 12 = i64 i →
      LI Tryd.prog N drawB l40_0 env H K := by
  intro k
  induction k with
  | zero =>
    intro i env hi hn h1 h5 h11 h12
    refine li_go hm l40_0.eq_1 ?_
    have e : i = 5 := by omega
    subst e
    simp -implicitDefEqProofs [h1, h5, h11, h12]
    refine hno ?_ _ (by simp [h1]) (by simp [h5])
    unfold isDbl
    rw [List.any_eq_false]
    intro p hp
    rw [hn p hp]; simp
  | succ k ih =>
    intro i env hi hn h1 h5 h11 h12
    refine li_go hm l40_0.eq_1 ?_
    have hlt : i < dbls.length := by simp [dbls]; omega
    have hl5 : dbls.length = 5 := rfl
    have hi5 : (i : Int) < 5 := by omega
    have hlen : dbls[i].length = 2 := by
      have : ∀ p ∈ dbls, p.length = 2 := by decide
      exact this _ (List.getElem_mem hlt)
    have hg : dbls[i]? = some dbls[i] := List.getElem?_eq_getElem hlt
    have hmem : dbls[i] ∈ dbls := List.getElem_mem hlt
    have htk : dbls.take (i + 1) = dbls.take i ++ [dbls[i]] := List.take_succ_eq_append_getElem hlt
    generalize dbls[i] = d at hg hlen hmem htk
    simp -implicitDefEqProofs [h1, h5, h11, h12, hi5, hg, hl5]
    refine call_go (ok55 r d) ?_
    by_cases hp : d.isPrefixOf r = true
    · simp -implicitDefEqProofs [h1, h5, h11, h12, hp, hlen]
      exact hyes (List.any_eq_true.2 ⟨d, hmem, hp⟩) _ (by simp)
    · rw [Bool.not_eq_true] at hp
      simp -implicitDefEqProofs [h1, h5, h11, h12, hp, wrap_suc (show i < 9223372036854775807 by omega)]
      refine ih (i + 1) _ (by omega) ?_ (by simp [h1]) (by simp [h5]) (by simp [h11]) (by simp)
      rw [htk]
      intro p hm
      rcases List.mem_append.1 hm with h | h
      · exact hn p h
      · rw [List.mem_singleton.1 h]; exact hp
theorem drop_tk (l : List UInt8) (e : Nat) : (l.drop e).take (l.length - e) = l.drop e := List.take_of_length_le (by simp)
theorem ok40 {e : Nat} (he : e < l.length) (hl : l.length < 4611686018427387904) : Ok Tryd.prog 40 [st (B l), i64 e] H (.ret (i64 (signE l e))) H := by
  refine ok_fn hm Tryd.func40 c40 (by simp) fun hcl => ?_
  have hle : e ≤ l.length := by omega
  have hd : (l.drop e).length = l.length - e := by simp
  have hg : l.getD e 0 = l[e] := by simp [he]
  simp -implicitDefEqProofs [i40, r40, hle, drop_tk]
  refine loop40 (r := l.drop e) (e := e) (fun hy env h4 => ?_) (fun hy env h1 h5 => ?_) 5 0 _ rfl (by simp) (by simp) (by simp) (by simp [dbls]) (by simp)
  · have w : IntKind.i64.wrap ((e : Int) + 2) = ((e + 2 : Nat) : Int) := by rw [wrap_id (by omega) (by omega)]; rfl
    simp -implicitDefEqProofs [h4, w]
    simp [signE, hy]
    exact cv_id
  · have w : IntKind.i64.wrap ((e : Int) + 1) = ((e + 1 : Nat) : Int) := by rw [wrap_id (by omega) (by omega)]; rfl
    have f1 : ((l[e].toNat : Int) = 33) ↔ l[e] = 33 := u8i l[e] 33
    have f2 : ((l[e].toNat : Int) = 46) ↔ l[e] = 46 := u8i l[e] 46
    simp -implicitDefEqProofs [h1, h5, he]
    refine ⟨by omega, fun h => ⟨h, by omega⟩, ?_⟩
    simp only [f1, f2]
    split
    · rename_i h
      have : signE l e = e := by unfold signE; rw [hy, if_neg (by simp), hg, if_pos h]
      rw [this]; exact cv_id
    · rename_i h
      have : signE l e = e + 1 := by unfold signE; rw [hy, if_neg (by simp), hg, if_neg h]
      rw [this, w]; exact cv_id
theorem ok41 {e : Nat} (he : e ≤ l.length) (hl : l.length < 4611686018427387904) : Ok Tryd.prog 41 [st (B l), i64 e] H (.ret (i64 ((e + comE (l.drop e) : Nat) : Int))) H := by
  refine ok_fn hm Tryd.func41 c41 (by simp) fun hcl => ?_
  have hd : (l.drop e).length = l.length - e := by simp
  have hc := comE_le (l.drop e)
  simp -implicitDefEqProofs [i41, r41, he, drop_tk]
  have h56 : Ok Tryd.prog 56 [st (B (l.drop e)), u8 10] H (.ret (i64 (Lib.indexByte (l.drop e) 10))) H := by
    have := ok56 (H := H) (l.drop e) 10
    exact this
  rw [index_com] at h56
  refine call_go h56 ?_
  simp -implicitDefEqProofs
  by_cases h : comE (l.drop e) < l.length - e
  · rw [if_pos h, if_pos (by omega), wrap_id (by omega) (by omega)]
    exact cv_id
  · rw [if_neg h, if_neg (by omega)]
    have : (l.length : Int) = (e : Int) + (comE (l.drop e) : Int) := by omega
    rw [this]; exact cv_id
end
end Go.Proofs.YtjbhokoihamhiaaDoor
/- T9 -/
namespace Go.Proofs.YtjbhokoihamhiaaDoor
open Go.Ab
/-- The number of digits, or the error where it passes the greatest. -/
def numR : List UInt8 → Int → Int × Int
  | [], n => (0, n)
  | c :: r, n => if 1000000000 < 10 * n + ((c.toNat : Int) - 48) then (2, 10 * n + ((c.toNat : Int) - 48)) else numR r (10 * n + ((c.toNat : Int) - 48))
def whE (l : List UInt8) (k : Int) (tx : List UInt8) (p : Nat) : Int × Int :=
  if tx = [] ∨ (k = 1 ∧ 0 < p ∧ cAt l (p - 1) = 3) then (11, 0) else if k = 1 ∧ 40 < tx.length then (4, 0) else if k ≠ 2 then (0, 0) else if 1 < tx.length ∧ tx.getD 0 0 = 48 then (3, 0) else numR tx 0
def tokC (k : Int) (tx : List UInt8) (n : Int) (p : Nat) : List SV := [i64 k, st (B tx), i64 n, i64 p]
theorem sb_at {l : List UInt8} {i : Nat} (h : i < l.length) : (sbyts (B l))[i]?.getD .any = u8 l[i].toNat := by simp [sbyts, h]
@[simp] theorem sb_get {l : List UInt8} {i : Nat} (h : i < (sbyts (B l)).length) : (sbyts (B l))[i] = u8 (l[i]'(by simpa [sbyts] using h)).toNat := by simp [sbyts]
theorem sb_len (l : List UInt8) : (sbyts (B l)).length = l.length := by simp [sbyts]
section
variable {H A L : List AO} {l tx : List UInt8}
def tH1 (A L : List AO) (k : Int) (tx : List UInt8) (n : Int) (p : Nat) : List AO := A ++ ⟨[i64 k, st (B tx), i64 n, i64 p], 25, 0, true⟩ :: L
theorem loop42 {k : Int} {p : Nat} (hl : tx.length < 4611686018427387904) (hd : ∀ c ∈ tx, 48 ≤ c.toNat ∧ c.toNat ≤ 57) {N : Nat} {K : XE → Env → List AO → Prop} {m0 : Int}
    (hret : (numR tx m0).1 = 2 → ∀ env, env.get 4 = i64 2 → K .ret env (tH1 A L k tx (numR tx m0).2 p))
    (hexit : (numR tx m0).1 = 0 → ∀ env, K (.exit 0) env (tH1 A L k tx (numR tx m0).2 p)) :
    ∀ (q i : Nat) (m : Int) (env : Env), i + q = tx.length → 0 ≤ m → m ≤ 1000000000 → numR (tx.drop i) m = numR tx m0 → env.get 1 = .ptr (.own A.length 0 0 0 0) 0 → env.get 73 = .slc (sbyts (B tx)) tx.length → env.get 74 = i64 tx.length → env.get 75 = i64 i →
      LI Tryd.prog N drawB l42_0 env (tH1 A L k tx m p) K := by
  intro q
  induction q with
  | zero =>
    intro i m env hi h0 hm1 hn h1 h73 h74 h75
    refine li_go hm l42_0.eq_1 ?_
    have e : i = tx.length := by omega
    subst e
    rw [List.drop_length] at hn
    simp -implicitDefEqProofs [h1, h73, h74, h75]
    have := hexit (by rw [← hn]; rfl)
    rw [← hn] at this
    exact this _
  | succ q ih =>
    intro i m env hi h0 hm1 hn h1 h73 h74 h75
    refine li_go hm l42_0.eq_1 ?_
    have hlt : i < tx.length := by omega
    have hc := hd tx[i] (List.getElem_mem hlt)
    have w1 : IntKind.i64.wrap (10 * m) = 10 * m := wrap_id (by omega) (by omega)
    have w2 : IntKind.u8.wrap ((tx[i].toNat : Int) - 48) = (tx[i].toNat : Int) - 48 := by unfold IntKind.wrap; simp [IntKind.signed, IntKind.bits]; omega
    have w3 : IntKind.i64.wrap ((tx[i].toNat : Int) - 48) = (tx[i].toNat : Int) - 48 := wrap_id (by omega) (by omega)
    have w4 : IntKind.i64.wrap (10 * m + ((tx[i].toNat : Int) - 48)) = 10 * m + ((tx[i].toNat : Int) - 48) := wrap_id (by omega) (by omega)
    rw [List.drop_eq_getElem_cons hlt] at hn
    simp only [numR] at hn
    simp -implicitDefEqProofs [h1, h73, h74, h75, hlt, sb_at hlt, sb_len, tH1, w1, w2, w3, w4]
    refine ⟨by omega, ?_⟩
    split
    · rename_i h
      rw [if_pos h] at hn
      have := hret (by rw [← hn])
      rw [← hn] at this
      exact this _ (by simp)
    · rename_i h
      rw [if_neg h] at hn
      exact ih (i + 1) _ _ (by omega) (by omega) (by omega) hn (by simp) (by simp) (by simp) (by simp [wrap_suc (show i < 9223372036854775807 by omega)])
theorem st_u8 (n : Int) : [SV.gd true (u8 n)].map SV.strip = [u8 n] := by simp only [List.map_cons, List.map_nil, SV.strip, u8]
set_option maxRecDepth 100000 in
theorem ok42 {k : Int} {p : Nat} (hl : l.length < 4611686018427387904) (hp : p < l.length) (ht : tx.length < 4611686018427387904) (hd : k = 2 → ∀ c ∈ tx, 48 ≤ c.toNat ∧ c.toNat ≤ 57) :
    Ok Tryd.prog 42 [st (B l), .ptr (.own A.length 0 0 0 0) 0] (tH1 A L k tx 0 p) (.ret (i64 (whE l k tx p).1)) (tH1 A L k tx (whE l k tx p).2 p) := by
  refine ok_fn hm Tryd.func42 c42 (by simp) fun hcl => ?_
  have cvv : ∀ {v : Int × Int}, whE l k tx p = v → Cv (A.length + (L.length + 1)) (i64 v.1) (A ++ ⟨[i64 k, st (B tx), i64 v.2, i64 p], 25, 0, true⟩ :: L) (i64 (whE l k tx p).1) (A ++ ⟨[i64 k, st (B tx), i64 (whE l k tx p).2, i64 p], 25, 0, true⟩ :: L) := fun h => by rw [h]; exact cv_id
  by_cases hA : tx = []
  · have hw : whE l k tx p = (11, 0) := by simp [whE, hA]
    simp -implicitDefEqProofs [i42, r42, tH1, hA]
    refine callq_off _ _ _ _ ?_
    simp -implicitDefEqProofs
    have := cvv hw
    rw [hA] at this
    exact this
  · by_cases hB : k = 1 ∧ 0 < p
    · obtain ⟨rfl, hp0⟩ := hB
      have w1 : IntKind.i64.wrap ((p : Int) - 1) = ((p - 1 : Nat) : Int) := by rw [wrap_id (by omega) (by omega)]; omega
      have hlt : p - 1 < l.length := by omega
      have hca : cls l[p - 1].toNat = cAt l (p - 1) := by simp [cAt, hlt]
      simp -implicitDefEqProofs [i42, r42, tH1, hA, hp0, w1, hlt]
      refine callq_st (r := i64 (cls l[p - 1].toNat)) (fun _ => by rw [st_u8]; exact ok26 _) ?_
      by_cases hc : cAt l (p - 1) = 3
      · simp -implicitDefEqProofs [hca, hc]
        exact cvv (v := (11, 0)) (by simp [whE, hp0, hc])
      · simp -implicitDefEqProofs [hca, hc]
        split
        · exact cvv (v := (4, 0)) (by simp [whE, hA, hc]; omega)
        · exact cvv (v := (0, 0)) (by simp [whE, hA, hc]; omega)
    · have hB' : (decide (k = 1) && decide (0 < p)) = false := by simp; omega
      have hn1 : ¬ (tx = [] ∨ (k = 1 ∧ 0 < p ∧ cAt l (p - 1) = 3)) := by rintro (h | h); exact hA h; exact hB ⟨h.1, h.2.1⟩
      simp -implicitDefEqProofs [i42, r42, tH1, hA, hB']
      refine callq_off _ _ _ _ ?_
      by_cases h1 : k = 1
      · subst h1
        simp -implicitDefEqProofs
        split
        · exact cvv (v := (4, 0)) (by unfold whE; rw [if_neg hn1, if_pos ⟨rfl, by omega⟩])
        · exact cvv (v := (0, 0)) (by unfold whE; rw [if_neg hn1, if_neg (by omega), if_pos (by decide)])
      · by_cases h2 : k = 2
        · subst h2
          have hpos : 0 < tx.length := List.length_pos_iff.2 hA
          have hg : tx.getD 0 0 = tx[0] := by simp [hpos]
          have f1 : ((tx[0].toNat : Int) = 48) ↔ tx[0] = 48 := u8i tx[0] 48
          have hw : whE l 2 tx p = if 1 < tx.length ∧ tx[0] = 48 then (3, 0) else numR tx 0 := by unfold whE; rw [if_neg hn1, if_neg (by omega), if_neg (by omega), hg]
          simp -implicitDefEqProofs [hpos]
          simp only [f1]
          split
          · rename_i h
            exact cvv (v := (3, 0)) (by rw [hw, if_pos ⟨by omega, h.2⟩])
          · rename_i h
            have hw2 : whE l 2 tx p = numR tx 0 := by rw [hw, if_neg (fun h2 => h ⟨by omega, h2.2⟩)]
            have cv2 := cvv hw2
            refine loop42 (m0 := 0) (k := 2) (p := p) (A := A) (L := L) ht (hd rfl) (fun hr env h4 => ?_) (fun hr env => ?_) tx.length 0 0 _ (by omega) (by omega) (by omega) (by simp) (by simp) (by simp) (by simp) (by simp)
            · rw [hr] at cv2
              simp -implicitDefEqProofs [h4, tH1]
              exact cv2
            · rw [hr] at cv2
              simp -implicitDefEqProofs [tH1]
              exact cv2
        · simp -implicitDefEqProofs [h1, h2]
          exact cvv (v := (0, 0)) (by unfold whE; rw [if_neg hn1, if_neg (by omega), if_pos h2])
end
end Go.Proofs.YtjbhokoihamhiaaDoor
/- T10 -/
namespace Go.Proofs.YtjbhokoihamhiaaDoor
open Go.Ab
structure Tok where
  k : Int
  tx : List UInt8
  n : Int
  p : Nat
def Tok.c (t : Tok) : List SV := [i64 t.k, st (B t.tx), i64 t.n, i64 t.p]
def Tok.v (t : Tok) : SV := .agg t.c
inductive Stp where
  | skip (q : Nat)
  | tok (t : Tok) (q : Nat)
  | flt (e : Int)
/-- The bytes from p to q. -/
def cut (l : List UInt8) (p q : Nat) : List UInt8 := (l.drop p).take (q - p)
def mkStp (l : List UInt8) (p : Nat) (k : Int) (q : Nat) : Stp :=
  if (whE l k (cut l p q) p).1 ≠ 0 then .flt (whE l k (cut l p q) p).1 else .tok ⟨k, cut l p q, (whE l k (cut l p q) p).2, p⟩ q
/-- What stands at a place. -/
def stepT (l : List UInt8) (p : Nat) : Stp :=
  if cAt l p = 1 then .skip (p + 1) else if cAt l p = 2 then mkStp l p 1 (runE l [2, 3] p) else if cAt l p = 3 then mkStp l p 2 (runE l [3] p)
  else if cAt l p = 4 then mkStp l p 3 (signE l p) else if l.getD p 0 = 35 then .skip (p + comE (l.drop p)) else mkStp l p 0 p
inductive Ev where
  | tok (t : Tok)
  | flt (e : Int) (p : Nat)
def evs (l : List UInt8) : Nat → Nat → List Ev
  | 0, _ => []
  | n + 1, p => if p < l.length then (match stepT l p with
    | .skip q => evs l n q
    | .tok t q => .tok t :: evs l n q
    | .flt e => [.flt e p]) else []
/-- The tail of a round: from the token's text on. -/
def t38 : IC := match l38_0 with
  | .keep _ (.seq _ (.blk _ (.seq _ (.seq _ (.seq _ t))))) => t
  | _ => .no
def zT : SV := .agg [i64 0, st (B []), i64 0, i64 0]
section
variable {l : List UInt8}
theorem cut_len {p q : Nat} (h : p ≤ q) (hq : q ≤ l.length) : (cut l p q).length = q - p := by simp [cut]; omega
theorem tail38 {J : Nat → List AO → Prop} {Q : List AO → Prop} {y : Nat} {es : List Ev} (hl : l.length < 4611686018427387904)
    (hJa : ∀ i H L, J i H → J i (H ++ L))
    (hy : ∀ i t H, es[i]? = some (.tok t) → J i H → YlP Tryd.prog y [t.v, .val .nilIface] H fun o H' => (o = .ret (bl true) ∧ J (i + 1) H') ∨ (o = .ret (bl false) ∧ Q H'))
    (hf : ∀ (i : Nat) (e : Int) (p : Nat) (H : List AO), es[i]? = some (.flt e p) → J i H → YlP Tryd.prog y [zT, .ifc 62 (fltV e p)] H fun o H' => (∃ b, o = .ret (bl b)) ∧ Q H')
    {N : Nat} {K : XE → Env → List AO → Prop} {p q i : Nat} {k : Int} {A L : List AO} {env : Env} (hp : p < l.length) (hpq : p ≤ q) (hq : q ≤ l.length)
    (hd : k = 2 → ∀ c ∈ cut l p q, 48 ≤ c.toNat ∧ c.toNat ≤ 57) (hJ : J i A)
    (h0 : env.get 0 = .yl y) (h1 : env.get 1 = .ptr (.slc [st (B l)] 0) 0) (h3 : env.get 3 = i64 p) (h4 : env.get 4 = .ptr (.own A.length 0 0 0 0) 0) (h5 : env.get 5 = i64 q)
    (hbad : ∀ env H, Q H → K (.exit 0) env H)
    (hflt : ∀ e, mkStp l p k q = .flt e → es[i]? = some (.flt e p))
    (htok : ∀ t, mkStp l p k q = .tok t q → es[i]? = some (.tok t) ∧ ∀ env H, J (i + 1) H → env.get 0 = .yl y → env.get 1 = .ptr (.slc [st (B l)] 0) 0 → env.get 3 = i64 q → K .normal env H) :
    X Tryd.prog N drawB t38 env (A ++ ⟨[i64 k, st ⟨#[]⟩, i64 0, i64 p], 25, 0, true⟩ :: L) K := by
  have hc := cut_len hpq hq
  have hcut : (l.drop p).take (q - p) = cut l p q := rfl
  simp -implicitDefEqProofs [t38, l38_0, h0, h1, h3, h4, h5, hpq, hq, hcut]
  refine call_go (ok42 (A := A) (L := L) (k := k) (p := p) (tx := cut l p q) hl hp (by omega) hd) ?_
  unfold tH1
  by_cases he : (whE l k (cut l p q) p).1 = 0
  · have hm : mkStp l p k q = .tok ⟨k, cut l p q, (whE l k (cut l p q) p).2, p⟩ q := by simp [mkStp, he]
    obtain ⟨g1, g2⟩ := htok _ hm
    generalize (whE l k (cut l p q) p).2 = n at hm g1
    simp -implicitDefEqProofs [h0, h1, h3, h4, h5, he]
    refine call_yl (hy i _ _ g1 (hJa i A _ hJ)) ?_
    rintro o H' (⟨rfl, hJ'⟩ | ⟨rfl, hQ⟩)
    · simp -implicitDefEqProofs [h0, h1, h3, h4, h5]
      exact g2 _ _ hJ' (by simp [h0]) (by simp [h1]) (by simp [h5])
    · simp -implicitDefEqProofs
      exact hbad _ _ hQ
  · have hm : mkStp l p k q = .flt (whE l k (cut l p q) p).1 := by simp [mkStp, he]
    have g1 := hflt _ hm
    generalize (whE l k (cut l p q) p).1 = e at hm g1 he
    simp -implicitDefEqProofs [h0, h1, h3, h4, h5, he]
    refine call_yl (hf i e p _ g1 (hJa i A _ hJ)) ?_
    rintro o H' ⟨⟨b, rfl⟩, hQ⟩
    simp -implicitDefEqProofs
    exact hbad _ _ hQ
end
end Go.Proofs.YtjbhokoihamhiaaDoor
/- T11 -/
namespace Go.Proofs.YtjbhokoihamhiaaDoor
open Go.Ab
def pA : IC → IC
  | .keep _ (.seq a _) => a
  | _ => .no
def pB : IC → IC
  | .keep _ (.seq _ (.blk _ (.seq b _))) => b
  | _ => .no
def pC : IC → IC
  | .keep _ (.seq _ (.blk _ (.seq _ (.seq c _)))) => c
  | _ => .no
def pD : IC → IC
  | .keep _ (.seq _ (.blk _ (.seq _ (.seq _ (.seq d _))))) => d
  | _ => .no
theorem l38_eq : l38_0 = .keep [0, 1, 3] (.seq (pA l38_0) (.blk 1 (.seq (pB l38_0) (.seq (pC l38_0) (.seq (pD l38_0) t38))))) := rfl
theorem cAt_digit {l : List UInt8} {i : Nat} (h : i < l.length) (hc : cAt l i = 3) : 48 ≤ l[i].toNat ∧ l[i].toNat ≤ 57 := by
  have e : cls l[i].toNat = 3 := by simpa [cAt, h] using hc
  unfold cls at e
  by_cases hd : dgtB l[i].toNat = true
  · simpa [dgtB] using hd
  · rw [if_neg hd] at e
    by_cases h1 : l[i].toNat < 33 ∧ blkB l[i].toNat = true
    · rw [if_pos h1] at e; cases e
    · rw [if_neg h1] at e
      split at e
      · cases e
      · split at e <;> cases e
theorem runN_all {l : List UInt8} {cs : List Int} : ∀ (n e i : Nat), e ≤ i → i < runN l cs n e → i < l.length ∧ cAt l i ∈ cs
  | 0, e, i, h1, h2 => by simp [runN] at h2; omega
  | n + 1, e, i, h1, h2 => by
    simp only [runN] at h2
    split at h2
    · rename_i h
      by_cases hi : i = e
      · subst hi; exact h
      · exact runN_all n (e + 1) i (by omega) h2
    · omega
theorem run_digits {l : List UInt8} {p : Nat} : ∀ c ∈ cut l p (runE l [3] p), 48 ≤ c.toNat ∧ c.toNat ≤ 57 := by
  intro c hc
  obtain ⟨j, hj, rfl⟩ := List.mem_iff_getElem.1 hc
  simp only [cut, List.length_take, List.length_drop] at hj
  have h1 := runN_all (l := l) (cs := [3]) (l.length - p) p (p + j) (by omega) (by unfold runE at hj; omega)
  have h2 := cAt_digit h1.1 (by simpa using h1.2)
  simpa [cut] using h2
section
variable {l : List UInt8}
theorem comE_pos {p : Nat} (h : p < l.length) (hc : l.getD p 0 = 35) : 0 < comE (l.drop p) := by
  rw [List.drop_eq_getElem_cons h]
  have : l[p] = 35 := by simpa [h] using hc
  simp [comE, this]
theorem signE_rng {p : Nat} (hp : p < l.length) : p ≤ signE l p ∧ signE l p ≤ l.length := by
  unfold signE
  split
  · rename_i h
    obtain ⟨d, hd, hpre⟩ := List.any_eq_true.1 h
    have h2 : d.length = 2 := by
      have : ∀ p ∈ dbls, p.length = 2 := by decide
      exact this _ hd
    have := (List.isPrefixOf_iff_prefix.1 hpre).length_le
    simp at this
    omega
  · split <;> omega
theorem mkStp_lt {p q : Nat} {k : Int} {t : Tok} (h : mkStp l p k q = .tok t q) : p < q := by
  unfold mkStp at h
  by_cases hc : cut l p q = []
  · have : (whE l k (cut l p q) p).1 = 11 := by unfold whE; rw [if_pos (.inl hc)]
    rw [this, if_pos (by decide)] at h
    cases h
  · rcases Nat.lt_or_ge p q with h1 | h1
    · exact h1
    · exfalso; apply hc; simp [cut]; omega
theorem loop38 {J : Nat → List AO → Prop} {Q : List AO → Prop} {y : Nat} {es : List Ev} (hl : l.length < 4611686018427387904)
    (hJa : ∀ i H L, J i H → J i (H ++ L))
    (hy : ∀ i t H, es[i]? = some (.tok t) → J i H → YlP Tryd.prog y [t.v, .val .nilIface] H fun o H' => (o = .ret (bl true) ∧ J (i + 1) H') ∨ (o = .ret (bl false) ∧ Q H'))
    (hf : ∀ (i : Nat) (e : Int) (p : Nat) (H : List AO), es[i]? = some (.flt e p) → J i H → YlP Tryd.prog y [zT, .ifc 62 (fltV e p)] H fun o H' => (∃ b, o = .ret (bl b)) ∧ Q H')
    {N : Nat} {K : XE → Env → List AO → Prop} (hexit : ∀ env H, J es.length H ∨ Q H → K (.exit 0) env H) :
    ∀ (n p i : Nat) (env : Env) (H : List AO), l.length ≤ p + n → evs l n p = es.drop i → i ≤ es.length → J i H → env.get 0 = .yl y → env.get 1 = .ptr (.slc [st (B l)] 0) 0 → env.get 3 = i64 p →
      LI Tryd.prog N drawB l38_0 env H K := by
  intro n
  induction n with
  | zero =>
    intro p i env H hn he hi hJ h0 h1 h3
    refine li_go hm l38_eq ?_
    have hp : ¬ p < l.length := by omega
    have e : i = es.length := by
      have := congrArg List.length he
      simp [evs] at this; omega
    subst e
    simp -implicitDefEqProofs [pA, l38_0, h0, h1, h3, hp]
    exact hexit _ _ (.inl hJ)
  | succ n ih =>
    intro p i env H hn he hi hJ h0 h1 h3
    refine li_go hm l38_eq ?_
    by_cases hp : p < l.length
    · have hca : cls l[p].toNat = cAt l p := by simp [cAt, hp]
      simp -implicitDefEqProofs [pA, pB, pC, pD, l38_0, h0, h1, h3, hp]
      refine call_go (ok26 l[p]) ?_
      simp only [evs, if_pos hp] at he
      have fin : ∀ (k : Int) (q : Nat), stepT l p = mkStp l p k q → (∀ e, mkStp l p k q = .flt e → es[i]? = some (.flt e p)) ∧ (∀ t, mkStp l p k q = .tok t q → es[i]? = some (.tok t) ∧ evs l n q = es.drop (i + 1) ∧ p < q) := by
        intro k q hs
        rw [hs] at he
        refine ⟨fun e hm => ?_, fun t hm => ?_⟩
        · rw [hm] at he
          have := congrArg (fun x => x[0]?) he
          simpa using this.symm
        · rw [hm] at he
          have h1 := congrArg (fun x => x[0]?) he
          have h2 := congrArg (fun x => x.drop 1) he
          exact ⟨by simpa using h1.symm, by simpa using h2, mkStp_lt hm⟩
      by_cases c1 : cAt l p = 1
      · have hs : stepT l p = .skip (p + 1) := by simp [stepT, c1]
        rw [hs] at he
        simp -implicitDefEqProofs [h0, h1, h3, hp, hca, c1]
        exact ih (p + 1) i _ _ (by omega) he hi (hJa _ _ _ hJ) (by simp [h0]) (by simp [h1]) (by simp [wrap_suc (show p < 9223372036854775807 by omega)])
      · by_cases c2 : cAt l p = 2
        · have hs : stepT l p = mkStp l p 1 (runE l [2, 3] p) := by simp [stepT, c2]
          obtain ⟨g1, g2⟩ := fin _ _ hs
          simp -implicitDefEqProofs [h0, h1, h3, hp, hca, c2]
          refine call_go (ok39 (cs := [2, 3]) (IsI.whole (k := 1) (T := 47) rfl rfl) hl (by decide) (by omega)) ?_
          simp -implicitDefEqProofs [h0, h1, h3, hp, hca, c2]
          refine tail38 (k := 1) (p := p) (q := runE l [2, 3] p) (A := H) hl hJa hy hf hp (runE_le _) (runE_len (by omega)) (fun h => by cases h) hJ (by simp [h0]) (by simp [h1]) (by simp [h3]) (by simp) (by simp) (fun env H hQ => ?_) g1 (fun t hm => ⟨(g2 t hm).1, fun env H hJ' k0 k1 k3 => ?_⟩)
          · simp -implicitDefEqProofs
            exact hexit _ _ (.inr hQ)
          · simp -implicitDefEqProofs
            exact ih _ (i + 1) _ _ (by have := (g2 t hm).2.2; omega) (g2 t hm).2.1 (by have := getElem?_lt (g2 t hm).1; omega) hJ' (by simp [k0]) (by simp [k1]) (by simp [k3])
        · by_cases c3 : cAt l p = 3
          · have hs : stepT l p = mkStp l p 2 (runE l [3] p) := by simp [stepT, c3]
            obtain ⟨g1, g2⟩ := fin _ _ hs
            simp -implicitDefEqProofs [h0, h1, h3, hp, hca, c3]
            refine call_go (ok39 (cs := [3]) (IsI.whole (k := 1) (T := 47) rfl rfl) hl (by decide) (by omega)) ?_
            simp -implicitDefEqProofs [h0, h1, h3, hp, hca, c3]
            refine tail38 (k := 2) (p := p) (q := runE l [3] p) (A := H) hl hJa hy hf hp (runE_le _) (runE_len (by omega)) (fun _ => run_digits) hJ (by simp [h0]) (by simp [h1]) (by simp [h3]) (by simp) (by simp) (fun env H hQ => ?_) g1 (fun t hm => ⟨(g2 t hm).1, fun env H hJ' k0 k1 k3 => ?_⟩)
            · simp -implicitDefEqProofs
              exact hexit _ _ (.inr hQ)
            · simp -implicitDefEqProofs
              exact ih _ (i + 1) _ _ (by have := (g2 t hm).2.2; omega) (g2 t hm).2.1 (by have := getElem?_lt (g2 t hm).1; omega) hJ' (by simp [k0]) (by simp [k1]) (by simp [k3])
          · by_cases c4 : cAt l p = 4
            · have hs : stepT l p = mkStp l p 3 (signE l p) := by simp [stepT, c4]
              obtain ⟨g1, g2⟩ := fin _ _ hs
              simp -implicitDefEqProofs [h0, h1, h3, hp, hca, c4]
              refine call_go (ok40 hp hl) ?_
              simp -implicitDefEqProofs [h0, h1, h3, hp, hca, c4]
              refine tail38 (k := 3) (p := p) (q := signE l p) (A := H) (L := []) hl hJa hy hf hp (signE_rng hp).1 (signE_rng hp).2 (fun h => by cases h) hJ (by simp [h0]) (by simp [h1]) (by simp [h3]) (by simp) (by simp) (fun env H hQ => ?_) g1 (fun t hm => ⟨(g2 t hm).1, fun env H hJ' k0 k1 k3 => ?_⟩)
              · simp -implicitDefEqProofs
                exact hexit _ _ (.inr hQ)
              · simp -implicitDefEqProofs
                exact ih _ (i + 1) _ _ (by have := (g2 t hm).2.2; omega) (g2 t hm).2.1 (by have := getElem?_lt (g2 t hm).1; omega) hJ' (by simp [k0]) (by simp [k1]) (by simp [k3])
            · have f1 : ((l[p].toNat : Int) = 35) ↔ l[p] = 35 := u8i l[p] 35
              have hg : l.getD p 0 = l[p] := by simp [hp]
              by_cases c5 : l[p] = 35
              · have hs : stepT l p = .skip (p + comE (l.drop p)) := by simp [stepT, c1, c2, c3, c4, hp, c5]
                rw [hs] at he
                have hpos := comE_pos hp (by rw [hg, c5])
                simp -implicitDefEqProofs [h0, h1, h3, hp, hca, c1, c2, c3, c4, f1.2 c5]
                refine call_go (ok41 (by omega) hl) ?_
                simp -implicitDefEqProofs [h0, h1, h3, hp]
                exact ih (p + comE (l.drop p)) i _ _ (by omega) he hi (hJa _ _ _ hJ) (by simp [h0]) (by simp [h1]) (by simp)
              · have hs : stepT l p = mkStp l p 0 p := by simp [stepT, c1, c2, c3, c4, hp, c5]
                obtain ⟨g1, g2⟩ := fin _ _ hs
                have c6 : ¬ ((l[p].toNat : Int) = 35) := fun h => c5 (f1.1 h)
                simp -implicitDefEqProofs [h0, h1, h3, hp, hca, c1, c2, c3, c4, c6]
                refine tail38 (k := 0) (p := p) (q := p) (A := H) (L := []) hl hJa hy hf hp (Nat.le_refl _) (by omega) (fun h => by cases h) hJ (by simp [h0]) (by simp [h1]) (by simp [h3]) (by simp) (by simp) (fun env H hQ => ?_) g1 (fun t hm => ⟨(g2 t hm).1, fun env H hJ' k0 k1 k3 => ?_⟩)
                · simp -implicitDefEqProofs
                  exact hexit _ _ (.inr hQ)
                · simp -implicitDefEqProofs
                  exact ih _ (i + 1) _ _ (by have := (g2 t hm).2.2; omega) (g2 t hm).2.1 (by have := getElem?_lt (g2 t hm).1; omega) hJ' (by simp [k0]) (by simp [k1]) (by simp [k3])
    · have e : i = es.length := by
        simp only [evs, if_neg hp] at he
        have := congrArg List.length he
        simp at this; omega
      subst e
      simp -implicitDefEqProofs [pA, l38_0, h0, h1, h3, hp]
      exact hexit _ _ (.inl hJ)
end
end Go.Proofs.YtjbhokoihamhiaaDoor
/- T12 -/
namespace Go.Proofs.YtjbhokoihamhiaaDoor
open Go.Ab
/-- The closure that yields the tokens of a text. -/
def genV (l : List UInt8) : SV := .fn (.func 38) [] [.ptr (.slc [st (B l)] 0) 0]
theorem fz_fn {n : Nat} {ks : List Nat} {L : List AO} {d : Nat} (f : Fn) (a b : List SV) : SV.fz n ks L (d + 2) (.fn f a b) = .fn f (a.map (SV.fz n ks L (d + 1))) (b.map (SV.fz n ks L (d + 1))) := by
  conv => lhs; unfold SV.fz
  split
  · rename_i h
    rw [SV.under, Bool.and_eq_true] at h
    rw [map_fz_under _ _ _ _ h.1, map_fz_under _ _ _ _ h.2]
  · rfl
section
variable {H : List AO} {l : List UInt8}
theorem ok27 : Ok Tryd.prog 27 [st (B l)] H (.ret (genV l)) H := by
  refine ok_fn hm Tryd.func27 c27 (by simp) fun hcl => ?_
  simp -implicitDefEqProofs [i27, r27]
  refine cv_fz 4 hcl rfl ?_
  simp [genV, fz_fn]
theorem ok38 {J : Nat → List AO → Prop} {Q : List AO → Prop} {y : Nat} {es : List Ev} (hes : evs l l.length 0 = es) (hl : l.length < 4611686018427387904)
    (hJa : ∀ i H L, J i H → J i (H ++ L))
    (hy : ∀ i t H, es[i]? = some (.tok t) → J i H → YlP Tryd.prog y [t.v, .val .nilIface] H fun o H' => (o = .ret (bl true) ∧ J (i + 1) H') ∨ (o = .ret (bl false) ∧ Q H'))
    (hf : ∀ (i : Nat) (e : Int) (p : Nat) (H : List AO), es[i]? = some (.flt e p) → J i H → YlP Tryd.prog y [zT, .ifc 62 (fltV e p)] H fun o H' => (∃ b, o = .ret (bl b)) ∧ Q H')
    (hJ : J 0 H) : OkP Tryd.prog 38 [.yl y, .ptr (.slc [st (B l)] 0) 0] H fun o H' => (∃ v, o = .ret v) ∧ (J es.length H' ∨ Q H') := by
  refine okP_fn hm Tryd.func38 c38 (by simp) fun hcl => ?_
  simp -implicitDefEqProofs [i38, r38]
  refine loop38 (J := J) (Q := Q) hl hJa hy hf (fun env H' hJ' => ?_) l.length 0 0 _ H (by omega) (by simpa using hes) (by omega) hJ ?_ ?_ ?_
  · simp -implicitDefEqProofs
    exact ⟨_, _, ⟨⟨_, rfl⟩, hJ'⟩, cv_id⟩
  all_goals simp
end
/-- The tokens among events. -/
def toks : List Ev → List Tok
  | [] => []
  | .tok t :: r => t :: toks r
  | .flt _ _ :: r => toks r
/-- The fault of events, the first i of which have been taken. -/
def fltE : Nat → List Ev → Int × Int
  | _, [] => (0, 0)
  | i, .tok t :: r => if i = 5000 then (12, t.p) else fltE (i + 1) r
  | _, .flt e p :: _ => (e, p)
def rwT (ts : List Tok) : AO := ⟨ts.flatMap Tok.c, 25, ts.length, true⟩
def sH15 (H : List AO) (lo : AO) (ts : List Tok) (L : List AO) : List AO :=
  H ++ ⟨[.val (.slice none 0 0)], 22, 0, true⟩ :: ⟨[i64 0, i64 0], 32, 0, true⟩ :: ⟨[.own (H.length + 4) 0 ts.length 4 ts.length], 22, 0, true⟩ :: lo :: rwT ts :: L
def e15 (H : List AO) (c : SV) : Env := [(2, .ptr (.own H.length 0 0 0 0) 0), (3, .ptr (.own (H.length + 1) 0 0 0 0) 0), (4, .ptr (.own (H.length + 2) 0 0 0 0) 0), (12, c)]
@[simp] theorem if1 : (SV.val Value.nilIface).isIf = true := rfl
@[simp] theorem if2 : (SV.val Value.nilIface).ifNil = true := rfl
@[simp] theorem if3 (t : TypeId) (x : SV) : (SV.ifc t x).isIf = true := rfl
@[simp] theorem if4 (t : TypeId) (x : SV) : (SV.ifc t x).ifNil = false := rfl
theorem sum4 {α : Type} (ts : List α) : (List.map (fun _ => 4) ts).sum = ts.length * 4 := by
  induction ts with
  | nil => rfl
  | cons t r ih => simp only [List.map_cons, List.sum_cons, ih, List.length_cons]; omega
/-- The state when the loop has been left with a fault. -/
def qH15 (H : List AO) (c : SV) (f : Int × Int) (H' : List AO) : Prop :=
  ∃ a cs L, H' = H ++ ⟨[.val (.slice none 0 0)], 22, 0, true⟩ :: ⟨[i64 f.1, i64 f.2], 32, 0, true⟩ :: a :: lpo Tryd.prog 37 drawB 0 [13, 14] ya15_0 yb15_0 cs .ret :: L
section
variable {H : List AO} {l : List UInt8}
theorem fm_len (ts : List Tok) : (ts.flatMap Tok.c).length = 4 * ts.length := by
  induction ts with
  | nil => rfl
  | cons t r ih => simp only [List.flatMap_cons, List.length_append, ih, List.length_cons]; simp [Tok.c]; omega
theorem round15 {c : SV} {ts : List Tok} {t : Tok} (hi : ts.length < 5000) (L : List AO) :
    YlP Tryd.prog (H.length + 3) [t.v, .val .nilIface] (sH15 H (lpo Tryd.prog 37 drawB 0 [13, 14] ya15_0 yb15_0 ((e15 H c).vals 37) .ready) ts L) fun o H' =>
      o = .ret (bl true) ∧ ∃ L, H' = sH15 H (lpo Tryd.prog 37 drawB 0 [13, 14] ya15_0 yb15_0 ((e15 H c).vals 37) .ready) (ts ++ [t]) L := by
  refine yl_go (N := 37) (env := e15 H c) hm ya15_0.eq_1 yb15_0.eq_1 (by simp [sH15]; rfl) (by simp [e15]) (by decide) rfl fun hcl => ?_
  generalize hlo : lpo Tryd.prog 37 drawB 0 [13, 14] ya15_0 yb15_0 ((e15 H c).vals 37) .ready = lo
  have hfm := fm_len ts
  simp -implicitDefEqProofs [e15, sH15, rwT, Tok.v, Tok.c]
  have hne : ¬ ((ts.length : Int) = 5000) := by omega
  simp -implicitDefEqProofs [hne, sum4]
  refine ⟨_, hlo.symm, by omega, by omega, _, by simp; rfl, .ready, true, _, ⟨rfl, rfl⟩, ⟨rfl, L ++ [⟨t.c, 25, 0, true⟩, ⟨t.c, 25, 0, true⟩], rfl⟩, cv_idq ?_⟩
  simp [set_app, hlo, Tok.c]
/-- One token too many. -/
theorem round15f {c : SV} {ts : List Tok} {t : Tok} (hi : ts.length = 5000) (L : List AO) :
    YlP Tryd.prog (H.length + 3) [t.v, .val .nilIface] (sH15 H (lpo Tryd.prog 37 drawB 0 [13, 14] ya15_0 yb15_0 ((e15 H c).vals 37) .ready) ts L) fun o H' =>
      o = .ret (bl false) ∧ qH15 H c (12, t.p) H' := by
  refine yl_go (N := 37) (env := e15 H c) hm ya15_0.eq_1 yb15_0.eq_1 (by simp [sH15]; rfl) (by simp [e15]) (by decide) rfl fun hcl => ?_
  generalize hlo : lpo Tryd.prog 37 drawB 0 [13, 14] ya15_0 yb15_0 ((e15 H c).vals 37) .ready = lo
  have hfm := fm_len ts
  simp -implicitDefEqProofs [e15, sH15, rwT, Tok.v, Tok.c]
  have hne : ((ts.length : Int) = 5000) := by omega
  simp -implicitDefEqProofs [hne, sum4]
  refine ⟨_, hlo.symm, call_go (ok34 12 t.p) ?_⟩
  simp -implicitDefEqProofs [e15, fltV]
  refine ⟨rfl, _, by simp; rfl, .ret, false, _, ⟨rfl, rfl⟩, ⟨rfl, ⟨[.own (H.length + 4) 0 ts.length 4 ts.length], 22, 0, true⟩, (e15 H c).vals 37, rwT ts :: (L ++ [⟨t.c, 25, 0, true⟩]), rfl⟩, cv_idq ?_⟩
  simp [set_app, e15, rwT, Tok.c]
/-- A fault. -/
theorem round15e {c : SV} {ts : List Tok} {e : Int} {p : Nat} (L : List AO) :
    YlP Tryd.prog (H.length + 3) [zT, .ifc 62 (fltV e p)] (sH15 H (lpo Tryd.prog 37 drawB 0 [13, 14] ya15_0 yb15_0 ((e15 H c).vals 37) .ready) ts L) fun o H' =>
      o = .ret (bl false) ∧ qH15 H c (e, p) H' := by
  refine yl_go (N := 37) (env := e15 H c) hm ya15_0.eq_1 yb15_0.eq_1 (by simp [sH15]; rfl) (by simp [e15]) (by decide) rfl fun hcl => ?_
  generalize hlo : lpo Tryd.prog 37 drawB 0 [13, 14] ya15_0 yb15_0 ((e15 H c).vals 37) .ready = lo
  simp -implicitDefEqProofs [e15, sH15, rwT, zT]
  refine ⟨_, hlo.symm, call_go (ok34 e p) ?_⟩
  simp -implicitDefEqProofs [e15, fltV]
  refine ⟨rfl, _, by simp; rfl, .ret, false, _, ⟨rfl, rfl⟩, ⟨rfl, ⟨[.own (H.length + 4) 0 ts.length 4 ts.length], 22, 0, true⟩, (e15 H c).vals 37, rwT ts :: (L ++ [⟨[i64 0, st (B []), i64 0, i64 0], 25, 0, true⟩]), rfl⟩, cv_idq ?_⟩
  simp [set_app, e15, rwT]
end
end Go.Proofs.YtjbhokoihamhiaaDoor
/- T13 -/
namespace Go.Proofs.YtjbhokoihamhiaaDoor
open Go.Ab
def evsT (l : List UInt8) : List Ev := evs l l.length 0
/-- What Scan returns: the tokens, the fault. -/
def scanG (l : List UInt8) : List Tok × Int × Int :=
  if 20000 < l.length then ([], 4, 20000) else if (fltE 0 (evsT l)).1 = 0 then (toks (evsT l), 0, 0) else ([], fltE 0 (evsT l))
def tksV (ts : List Tok) : SV := .slc (ts.flatMap Tok.c) ts.length
theorem toks_app : ∀ a b : List Ev, toks (a ++ b) = toks a ++ toks b
  | [], b => rfl
  | .tok t :: a, b => by simp [toks, toks_app a b]
  | .flt e p :: a, b => by simp [toks, toks_app a b]
theorem whE_num {tx : List UInt8} : ∀ {n : Int}, (numR tx n).1 = 0 ∨ (numR tx n).1 = 2 := by
  induction tx with
  | nil => intro n; exact .inl rfl
  | cons c r ih =>
    intro n
    simp only [numR]
    split
    · exact .inr rfl
    · exact ih
theorem evs_flt {l : List UInt8} : ∀ (n p : Nat) {e : Int} {q : Nat}, Ev.flt e q ∈ evs l n p → e ≠ 0
  | 0, p, e, q, h => by simp [evs] at h
  | n + 1, p, e, q, h => by
    simp only [evs] at h
    split at h
    · split at h
      · exact evs_flt n _ h
      · rcases List.mem_cons.1 h with h | h
        · cases h
        · exact evs_flt n _ h
      · rename_i e' he
        rw [List.mem_singleton] at h
        cases h
        have key : ∀ k q, mkStp l p k q = .flt e → e ≠ 0 := by
          intro k q hm
          unfold mkStp at hm
          split at hm
          · rename_i hne; cases hm; exact hne
          · cases hm
        unfold stepT at he
        split at he
        · cases he
        · split at he
          · exact key _ _ he
          · split at he
            · exact key _ _ he
            · split at he
              · exact key _ _ he
              · split at he
                · cases he
                · exact key _ _ he
    · simp at h
theorem und_toks (n : Nat) : ∀ ts : List Tok, SV.underL n (ts.flatMap Tok.c) = true
  | [] => rfl
  | t :: r => by rw [List.flatMap_cons, SV.underL_append, und_toks n r]; rfl
theorem tk_take (ts : List Tok) : (ts.flatMap Tok.c).take (ts.length * 4) = ts.flatMap Tok.c := List.take_of_length_le (by rw [fm_len]; omega)
section
variable {H : List AO} {l : List UInt8}
theorem ok15 (hl : l.length < 4611686018427387904) : Ok Tryd.prog 15 [st (B l)] H (.ret (.tup [tksV (scanG l).1, fltV (scanG l).2.1 (scanG l).2.2])) H := by
  refine ok_fn hm Tryd.func15 c15 (by simp) fun hcl => ?_
  by_cases hs : 20000 < l.length
  · have hs' : (20000 : Int) < l.length := by omega
    have hr : scanG l = ([], 4, 20000) := by simp [scanG, hs]
    simp -implicitDefEqProofs [i15, r15, hs']
    refine ⟨rfl, Cv.le (cv_fz 4 hcl rfl rfl) ?_⟩
    rw [hr]
    simp [tksV, fltV]
    exact le_tup (leL.cons le_nil (leL.cons (SV.le.refl _) leL.nil))
  · have hs' : ¬ (20000 : Int) < l.length := by omega
    simp -implicitDefEqProofs [i15, r15, hs']
    refine call_go ok27 ?_
    simp -implicitDefEqProofs [genV]
    generalize hes : evsT l = es
    have hmem : ∀ e p, Ev.flt e p ∈ es → e ≠ 0 := fun e p h => by rw [← hes] at h; exact evs_flt _ _ h
    have hdrop : ∀ {i : Nat} {v : Ev}, es[i]? = some v → es.drop i = v :: es.drop (i + 1) ∧ es.take (i + 1) = es.take i ++ [v] := by
      intro i v h
      have hlt := getElem?_lt h
      have e : es[i] = v := by rw [List.getElem?_eq_getElem hlt] at h; exact Option.some.inj h
      exact ⟨by rw [List.drop_eq_getElem_cons hlt, e], by rw [List.take_succ_eq_append_getElem hlt, e]⟩
    refine rg_go (Pt := fun o H' => (∃ v, o = .ret v) ∧ ((∃ L, H' = sH15 H (lpo Tryd.prog 37 drawB 0 [13, 14] ya15_0 yb15_0 ((e15 H (.fn (.func 38) [] [.ptr (.slc [st (B l)] 0) 0])).vals 37) .ready) (toks es) L ∧ fltE 0 es = (0, 0)) ∨ (qH15 H (.fn (.func 38) [] [.ptr (.slc [st (B l)] 0) 0]) (fltE 0 es) H' ∧ (fltE 0 es).1 ≠ 0))) ?_ ?_
    · refine OkP.tell (Tell.own0 (j := H.length + 2) (p := 0) (o := ⟨[.val (.slice none 0 0)], 22, 0, true⟩) (by simp) rfl rfl 25 4) (by simp) ?_
      refine OkP.cast (args' := [.yl (H.length + 3), .ptr (.slc [st (B l)] 0) 0]) (H' := sH15 H (lpo Tryd.prog 37 drawB 0 [13, 14] ya15_0 yb15_0 ((e15 H (.fn (.func 38) [] [.ptr (.slc [st (B l)] 0) 0])).vals 37) .ready) [] []) (by simp) (by simp [sH15, e15, rwT, set_app]) ?_
      refine (ok38 (J := fun i H' => ∃ L, H' = sH15 H (lpo Tryd.prog 37 drawB 0 [13, 14] ya15_0 yb15_0 ((e15 H (.fn (.func 38) [] [.ptr (.slc [st (B l)] 0) 0])).vals 37) .ready) (toks (es.take i)) L ∧ (toks (es.take i)).length = i ∧ i ≤ 5000 ∧ fltE 0 es = fltE i (es.drop i))
        (Q := fun H' => qH15 H (.fn (.func 38) [] [.ptr (.slc [st (B l)] 0) 0]) (fltE 0 es) H' ∧ (fltE 0 es).1 ≠ 0) (y := H.length + 3) (es := es) hes hl ?_ ?_ ?_ ⟨[], by simp [toks], by simp [toks], by omega, rfl⟩).mono ?_
      · rintro i H' L' ⟨L, rfl, h1, h2, h3⟩
        exact ⟨L ++ L', by simp [sH15], h1, h2, h3⟩
      · rintro i t H' hi ⟨L, rfl, h1, h2, h3⟩
        obtain ⟨d1, d2⟩ := hdrop hi
        rw [d1] at h3
        simp only [fltE] at h3
        by_cases h5 : i = 5000
        · rw [if_pos h5] at h3
          refine (round15f (c := .fn (.func 38) [] [.ptr (.slc [st (B l)] 0) 0]) (ts := toks (es.take i)) (t := t) (by omega) L).mono ?_
          rintro o H' ⟨rfl, hq⟩
          exact .inr ⟨rfl, by rw [h3]; exact hq, by rw [h3]; exact (by decide : (12 : Int) ≠ 0)⟩
        · rw [if_neg h5] at h3
          refine (round15 (c := .fn (.func 38) [] [.ptr (.slc [st (B l)] 0) 0]) (ts := toks (es.take i)) (t := t) (by omega) L).mono ?_
          rintro o H' ⟨rfl, L', hq⟩
          have e2 : toks (es.take (i + 1)) = toks (es.take i) ++ [t] := by rw [d2, toks_app]; rfl
          exact .inl ⟨rfl, L', by rw [e2]; exact hq, by rw [e2]; simp [h1], by omega, h3⟩
      · rintro i e p H' hi ⟨L, rfl, h1, h2, h3⟩
        obtain ⟨d1, d2⟩ := hdrop hi
        rw [d1] at h3
        simp only [fltE] at h3
        refine (round15e (c := .fn (.func 38) [] [.ptr (.slc [st (B l)] 0) 0]) (ts := toks (es.take i)) (e := e) (p := p) L).mono ?_
        rintro o H' ⟨rfl, hq⟩
        exact ⟨⟨_, rfl⟩, by rw [h3]; exact hq, by rw [h3]; exact hmem e p (List.mem_of_getElem? hi)⟩
      · rintro o H' ⟨hv, (⟨L, rfl, h1, h2, h3⟩ | hq)⟩
        · rw [List.take_length] at *
          rw [List.drop_length] at h3
          exact ⟨hv, .inl ⟨L, rfl, h3⟩⟩
        · exact ⟨hv, .inr hq⟩
    · rintro out H' ⟨⟨v, rfl⟩, (⟨L, rfl, hf⟩ | ⟨⟨a, cs, L, rfl⟩, hf⟩)⟩
      · refine ⟨.ready, _, by simp [sH15]; rfl, ?_⟩
        simp -implicitDefEqProofs [sH15]
        have hr : scanG l = (toks es, 0, 0) := by simp [scanG, hs, hes, hf]
        rw [hr]
        refine cv_fz 4 hcl rfl ?_
        have e4 : (List.map (fun a => a.c.length) (toks es)).sum = (toks es).length * 4 := by
          have : (fun a : Tok => a.c.length) = fun _ => 4 := by funext a; rfl
          rw [this, sum4]
        simp [tksV, fltV, rwT, e4, und_toks, map_fz_under _ _ _ _ (und_toks _ _), tk_take]
      · refine ⟨.ret, _, by simp; rfl, ?_⟩
        simp -implicitDefEqProofs
        have hr : scanG l = ([], fltE 0 es) := by simp [scanG, hs, hes, hf]
        rw [hr]
        refine Cv.le (cv_fz 4 hcl rfl rfl) ?_
        simp [tksV, fltV]
        exact le_tup (leL.cons le_nil (leL.cons (SV.le.refl _) leL.nil))
end
end Go.Proofs.YtjbhokoihamhiaaDoor
/- T14 -/
namespace Go.Proofs.YtjbhokoihamhiaaDoor
open Go.Ab
def whtB (c : Nat) : Bool := decide (c = 32 ∨ c = 9 ∨ c = 10)
theorem cls_all : ((List.range 256).all fun n => (decide (cls n = 2) == ltrB n) && (decide (cls n = 3) == dgtB n) && (decide (cls n = 1) == whtB n) && (decide (cls n = 4) == (decide (n = 33 ∨ n = 46) || (([123, 125, 40, 41, 58, 59, 44, 43, 45, 42, 47, 37, 60, 62, 61] : List Nat).contains n)))) = true := by kernel_rfl
theorem cls_at {n : Nat} (h : n < 256) : (cls n = 2 ↔ ltrB n = true) ∧ (cls n = 3 ↔ dgtB n = true) ∧ (cls n = 1 ↔ whtB n = true) ∧ (cls n = 4 ↔ ((n = 33 ∨ n = 46) ∨ n ∈ ([123, 125, 40, 41, 58, 59, 44, 43, 45, 42, 47, 37, 60, 62, 61] : List Nat))) := by
  have := List.all_eq_true.1 cls_all n (List.mem_range.2 h)
  simp only [Bool.and_eq_true, beq_iff_eq] at this
  obtain ⟨⟨⟨h1, h2⟩, h3⟩, h4⟩ := this
  refine ⟨?_, ?_, ?_, ?_⟩
  · rw [← h1]; simp
  · rw [← h2]; simp
  · rw [← h3]; simp
  · have h5 : (cls n = 4) ↔ (decide (cls n = 4) = true) := by simp
    rw [h5, h4]; simp
section
variable {H : List AO}
theorem ok31 (n : Nat) (hn : n < 256) : Ok Tryd.prog 31 [u8 n] H (.ret (bl (whtB n))) H := by
  refine ok_fn hm Tryd.func31 c31 (by simp) fun hcl => ?_
  simp -implicitDefEqProofs [i31, r31]
  have e : ((decide ((n : Int) = 32) || decide ((n : Int) = 9)) || decide ((n : Int) = 10)) = whtB n := by rw [Bool.eq_iff_iff]; simp [whtB]; omega
  rw [e]; exact cv_id
theorem ok43 (n : Nat) (hn : n < 256) : Ok Tryd.prog 43 [u8 n] H (.ret (bl (dgtB n))) H := by
  refine ok_fn hm Tryd.func43 c43 (by simp) fun hcl => ?_
  simp -implicitDefEqProofs [i43, r43]
  have e : (decide (48 ≤ (n : Int)) && decide ((n : Int) ≤ 57)) = dgtB n := by rw [Bool.eq_iff_iff]; simp [dgtB]; omega
  rw [e]; exact cv_id
theorem ok35 (n : Nat) (hn : n < 256) : Ok Tryd.prog 35 [u8 n] H (.ret (bl (ltrB n))) H := by
  refine ok_fn hm Tryd.func35 c35 (by simp) fun hcl => ?_
  simp -implicitDefEqProofs [i35, r35]
  have e : (decide (65 ≤ (n : Int)) && decide ((n : Int) ≤ 90) || decide (97 ≤ (n : Int)) && decide ((n : Int) ≤ 122) || decide ((n : Int) = 95)) = ltrB n := by rw [Bool.eq_iff_iff]; simp [ltrB]; omega
  refine ⟨by omega, by omega, by omega, ?_⟩
  rw [e]; exact cv_id
theorem ok45 (s : List UInt8) : Ok Tryd.prog 45 [st (B s)] H (.ret (bl (decide (s ∈ dbls)))) H := by
  refine ok_fn hm Tryd.func45 c45 (by simp) fun hcl => ?_
  simp -implicitDefEqProofs [i45, r45]
  have e : (decide (s = [61, 61]) || decide (s = [33, 61]) || decide (s = [60, 61]) || decide (s = [62, 61]) || decide (s = [46, 46])) = decide (s ∈ dbls) := by rw [Bool.eq_iff_iff]; simp [dbls, or_assoc]
  rw [e]; exact cv_id
/-- The signs of one byte that stand alone. -/
def sgls : List UInt8 := [123, 125, 40, 41, 58, 59, 44, 43, 45, 42, 47, 37, 60, 62, 61]
theorem loop46 {c : UInt8} {N : Nat} {K : XE → Env → List AO → Prop} (hyes : c ∈ sgls → ∀ env, env.get 2 = bl true → K .ret env H) (hno : c ∉ sgls → ∀ env, K (.exit 0) env H) :
    ∀ (k i : Nat) (env : Env), i + k = sgls.length → c ∉ sgls.take i → env.get 0 = u8 c.toNat → env.get 3 = st (B sgls) → env.get 4 = i64 i → LI Tryd.prog N drawB l46_0 env H K := by
  intro k
  induction k with
  | zero =>
    intro i env hi hn h0 h3 h4
    refine li_go hm l46_0.eq_1 ?_
    have e : i = sgls.length := by omega
    subst e
    rw [List.take_length] at hn
    simp -implicitDefEqProofs [h0, h3, h4]
    exact hno hn _
  | succ k ih =>
    intro i env hi hn h0 h3 h4
    refine li_go hm l46_0.eq_1 ?_
    have hlt : i < sgls.length := by omega
    have hl15 : sgls.length = 15 := rfl
    have htk : sgls.take (i + 1) = sgls.take i ++ [sgls[i]] := List.take_succ_eq_append_getElem hlt
    have hmem : sgls[i] ∈ sgls := List.getElem_mem hlt
    have f1 := u8i sgls[i] c
    simp -implicitDefEqProofs [h0, h3, h4, hlt]
    split
    · rename_i h
      exact hyes (by rw [← f1.1 h]; exact hmem) _ (by simp)
    · rename_i h
      refine ih (i + 1) _ (by omega) ?_ (by simp [h0]) (by simp [h3]) (by simp [wrap_suc (show i < 9223372036854775807 by omega)])
      rw [htk]
      intro hm
      rcases List.mem_append.1 hm with h2 | h2
      · exact hn h2
      · exact h (f1.2 (List.mem_singleton.1 h2).symm)
theorem ok46 (c : UInt8) : Ok Tryd.prog 46 [u8 c.toNat] H (.ret (bl (decide (c ∈ sgls)))) H := by
  refine ok_fn hm Tryd.func46 c46 (by simp) fun hcl => ?_
  simp -implicitDefEqProofs [i46, r46]
  refine loop46 (c := c) (fun h env h2 => ?_) (fun h env => ?_) sgls.length 0 _ (by omega) (by simp) (by simp) (by simp [sgls]) (by simp)
  · simp -implicitDefEqProofs [h2, h]
    exact cv_id
  · simp -implicitDefEqProofs [h]
    exact cv_id
end
end Go.Proofs.YtjbhokoihamhiaaDoor
/- T15 -/
namespace Go.Proofs.YtjbhokoihamhiaaDoor
open Go.Ab
def valF : List UInt8 → Int → Int
  | [], m => m
  | c :: r, m => valF r (10 * m + ((c.toNat : Int) - 48))
/-- The error of a number, and the number. -/
def numW (tx : List UInt8) : Int × Int := if 1 < tx.length ∧ tx.getD 0 0 = 48 then (3, 0) else numR tx 0
theorem valF_ge {tx : List UInt8} : ∀ {m : Int}, (∀ c ∈ tx, 48 ≤ c.toNat ∧ c.toNat ≤ 57) → 0 ≤ m → m * 10 ^ tx.length ≤ valF tx m ∧ valF tx m < (m + 1) * 10 ^ tx.length := by
  induction tx with
  | nil => intro m _ _; simp [valF]; omega
  | cons c r ih =>
    intro m hd hm
    have h1 := hd c (by simp)
    have h2 := ih (m := 10 * m + ((c.toNat : Int) - 48)) (fun x hx => hd x (by simp [hx])) (by omega)
    simp only [valF, List.length_cons]
    have e : (10 : Int) ^ (r.length + 1) = 10 * 10 ^ r.length := by rw [Int.pow_succ]; omega
    have hp : (0 : Int) ≤ 10 ^ r.length := Int.pow_nonneg (by omega)
    rw [e]
    generalize (10 : Int) ^ r.length = t at h2 hp
    constructor
    · have : m * (10 * t) ≤ (10 * m + ((c.toNat : Int) - 48)) * t := by
        have e2 : m * (10 * t) = (10 * m) * t := by rw [Int.mul_comm 10 m, Int.mul_assoc]
        rw [e2]; exact Int.mul_le_mul_of_nonneg_right (by omega) hp
      omega
    · have : (10 * m + ((c.toNat : Int) - 48) + 1) * t ≤ (m + 1) * (10 * t) := by
        have e2 : (m + 1) * (10 * t) = (10 * (m + 1)) * t := by rw [Int.mul_comm 10 (m + 1), Int.mul_assoc]
        rw [e2]; exact Int.mul_le_mul_of_nonneg_right (by omega) hp
      omega
theorem valF_le {tx : List UInt8} : ∀ {m : Int}, (∀ c ∈ tx, 48 ≤ c.toNat ∧ c.toNat ≤ 57) → 0 ≤ m → m ≤ valF tx m := by
  induction tx with
  | nil => intro m _ _; simp [valF]
  | cons c r ih =>
    intro m hd hm
    have h1 := hd c (by simp)
    have h2 := ih (m := 10 * m + ((c.toNat : Int) - 48)) (fun x hx => hd x (by simp [hx])) (by omega)
    simp only [valF]; omega
theorem numR_val {tx : List UInt8} : ∀ {m : Int}, (∀ c ∈ tx, 48 ≤ c.toNat ∧ c.toNat ≤ 57) → 0 ≤ m → m ≤ 1000000000 → (valF tx m ≤ 1000000000 → numR tx m = (0, valF tx m)) ∧ (1000000000 < valF tx m → (numR tx m).1 = 2) := by
  induction tx with
  | nil => intro m _ _ h1; simp only [valF, numR]; exact ⟨fun _ => trivial, fun h => by omega⟩
  | cons c r ih =>
    intro m hd hm h1
    have h2 := hd c (by simp)
    have hr : ∀ x ∈ r, 48 ≤ x.toNat ∧ x.toNat ≤ 57 := fun x hx => hd x (by simp [hx])
    simp only [valF, numR]
    by_cases h : 1000000000 < 10 * m + ((c.toNat : Int) - 48)
    · rw [if_pos h]
      have := valF_le (m := 10 * m + ((c.toNat : Int) - 48)) hr (by omega)
      exact ⟨fun h3 => by omega, fun _ => rfl⟩
    · rw [if_neg h]
      exact ih hr (by omega) (by omega)
theorem numW_long {tx : List UInt8} (hd : ∀ c ∈ tx, 48 ≤ c.toNat ∧ c.toNat ≤ 57) (h10 : 10 < tx.length) (h0 : tx.getD 0 0 ≠ 48) : 1000000000 < valF tx 0 := by
  match tx, h10 with
  | c :: r, h10 =>
    have h1 := hd c (by simp)
    have hne : c.toNat ≠ 48 := fun h => h0 (by simp; exact UInt8.toNat_inj.1 h)
    have h2 := (valF_ge (tx := r) (m := 10 * 0 + ((c.toNat : Int) - 48)) (fun x hx => hd x (by simp [hx])) (by omega)).1
    simp only [valF]
    have h3 : (10 : Int) ^ 10 ≤ 10 ^ r.length := by
      have : (10 : Nat) ^ 10 ≤ 10 ^ r.length := Nat.pow_le_pow_right (by omega) (by simp at h10; omega)
      exact_mod_cast this
    have h4 : (1 : Int) * 10 ^ r.length ≤ (10 * 0 + ((c.toNat : Int) - 48)) * 10 ^ r.length := Int.mul_le_mul_of_nonneg_right (by omega) (Int.pow_nonneg (by omega))
    have : (10 : Int) ^ 10 = 10000000000 := by decide
    omega
theorem valF_snoc (c : UInt8) : ∀ (tx : List UInt8) (m : Int), valF (tx ++ [c]) m = 10 * valF tx m + ((c.toNat : Int) - 48)
  | [], m => rfl
  | d :: r, m => by simp only [List.cons_append, valF]; exact valF_snoc c r _
section
variable {H : List AO}
theorem loop44 {tx : List UInt8} (hd : ∀ c ∈ tx, 48 ≤ c.toNat ∧ c.toNat ≤ 57) (h10 : tx.length ≤ 10) {N : Nat} {K : XE → Env → List AO → Prop} (hexit : ∀ env, env.get 4 = i64 (valF tx 0) → K (.exit 0) env H) :
    ∀ (k i : Nat) (env : Env), i + k = tx.length → env.get 0 = st (B tx) → env.get 4 = i64 (valF (tx.take i) 0) → env.get 5 = i64 i → LI Tryd.prog N drawB l44_0 env H K := by
  intro k
  induction k with
  | zero =>
    intro i env hi h0 h4 h5
    refine li_go hm l44_0.eq_1 ?_
    have e : i = tx.length := by omega
    subst e
    rw [List.take_length] at h4
    simp -implicitDefEqProofs [h0, h4, h5]
    exact hexit _ (by simp [h4])
  | succ k ih =>
    intro i env hi h0 h4 h5
    refine li_go hm l44_0.eq_1 ?_
    have hlt : i < tx.length := by omega
    have hc := hd tx[i] (List.getElem_mem hlt)
    have e2 := valF_snoc tx[i] (tx.take i) 0
    rw [← List.take_succ_eq_append_getElem hlt] at e2
    have hb := valF_ge (tx := tx.take i) (m := 0) (fun c hc => hd c (List.mem_of_mem_take hc)) (by omega)
    have h3 : (10 : Int) ^ (tx.take i).length ≤ 10 ^ 10 := by
      have : (10 : Nat) ^ (tx.take i).length ≤ 10 ^ 10 := Nat.pow_le_pow_right (by omega) (by simp; omega)
      exact_mod_cast this
    have h10' : (10 : Int) ^ 10 = 10000000000 := by decide
    generalize valF (tx.take i) 0 = m at h4 e2 hb
    have w1 : IntKind.i64.wrap (10 * m) = 10 * m := wrap_id (by omega) (by omega)
    have w2 : IntKind.u8.wrap ((tx[i].toNat : Int) - 48) = (tx[i].toNat : Int) - 48 := by unfold IntKind.wrap; simp [IntKind.signed, IntKind.bits]; omega
    have w3 : IntKind.i64.wrap ((tx[i].toNat : Int) - 48) = (tx[i].toNat : Int) - 48 := wrap_id (by omega) (by omega)
    have w4 : IntKind.i64.wrap (10 * m + ((tx[i].toNat : Int) - 48)) = 10 * m + ((tx[i].toNat : Int) - 48) := wrap_id (by omega) (by omega)
    simp -implicitDefEqProofs [h0, h4, h5, hlt, w1, w2, w3, w4]
    exact ih (i + 1) _ (by omega) (by simp [h0]) (by simp [e2]) (by simp [wrap_suc (show i < 9223372036854775807 by omega)])
theorem ok44 {tx : List UInt8} (hd : ∀ c ∈ tx, 48 ≤ c.toNat ∧ c.toNat ≤ 57) (hne : tx ≠ []) (hl : tx.length < 4611686018427387904) :
    Ok Tryd.prog 44 [st (B tx)] H (.ret (.tup [i64 (if (numW tx).1 = 0 then (numW tx).2 else 0), i64 (numW tx).1])) H := by
  refine ok_fn hm Tryd.func44 c44 (by simp) fun hcl => ?_
  have hpos : 0 < tx.length := List.length_pos_iff.2 hne
  have hg : tx.getD 0 0 = tx[0] := by simp [hpos]
  have f1 : ((tx[0].toNat : Int) = 48) ↔ tx[0] = 48 := u8i tx[0] 48
  by_cases h1 : 1 < tx.length ∧ tx[0] = 48
  · have hw : numW tx = (3, 0) := by unfold numW; rw [hg, if_pos h1]
    have h1' : (1 : Int) < tx.length := by omega
    rw [hw]
    simp -implicitDefEqProofs [i44, r44, hpos, h1', f1.2 h1.2]
    exact cv_id
  · have hw : numW tx = numR tx 0 := by unfold numW; rw [hg, if_neg h1]
    rw [hw]
    have hn := numR_val (tx := tx) (m := 0) hd (by omega) (by omega)
    by_cases h10 : 10 < tx.length
    · have hbig := numW_long hd h10 (by rw [hg]; intro h; exact h1 ⟨by omega, h⟩)
      rw [hn.2 hbig]
      have h10' : (10 : Int) < tx.length := by omega
      have hx : ¬ tx[0] = 48 := fun h => h1 ⟨by omega, h⟩
      simp -implicitDefEqProofs [i44, r44, hpos, h10', f1, hx]
      exact cv_id
    · simp -implicitDefEqProofs [i44, r44, hpos, f1]
      rw [if_neg (fun h => h1 ⟨by omega, h.2⟩), if_neg (by omega)]
      refine loop44 hd (by omega) (fun env h4 => ?_) tx.length 0 _ (by omega) (by simp) (by simp [valF]) (by simp)
      by_cases hv : 1000000000 < valF tx 0
      · rw [hn.2 hv]
        simp -implicitDefEqProofs [h4, hv]
        exact cv_id
      · rw [hn.1 (by omega)]
        simp -implicitDefEqProofs [h4, hv]
        exact cv_id
end
end Go.Proofs.YtjbhokoihamhiaaDoor
/- T16 -/
namespace Go.Proofs.YtjbhokoihamhiaaDoor
open Go.Ab
section
variable {H : List AO} {l : List UInt8}
theorem cAt_get {e : Nat} (he : e < l.length) : cAt l e = cls l[e].toNat := by simp [cAt, he]
theorem loop32_0 (hl : l.length < 4611686018427387904) {N : Nat} {K : XE → Env → List AO → Prop} {p : Nat} {x4 x6 : SV}
    (hexit : ∀ env, env.get 0 = st (B l) → env.get 1 = i64 p → env.get 4 = x4 → env.get 6 = x6 → env.get 7 = i64 (runE l [2, 3] p) → K (.exit 0) env H) :
    ∀ (k e : Nat) (env : Env), e + k = l.length → runE l [2, 3] e = runE l [2, 3] p → env.get 0 = st (B l) → env.get 1 = i64 p → env.get 4 = x4 → env.get 6 = x6 → env.get 7 = i64 e → LI Tryd.prog N drawB l32_0 env H K := by
  intro k
  induction k with
  | zero =>
    intro e env he hr h0 h1 h4 h6 h7
    refine li_go hm l32_0.eq_1 ?_
    have hlt : ¬ e < l.length := by omega
    have hs := runE_stop (l := l) (cs := [2, 3]) (e := e) (by omega)
    rw [hs] at hr
    simp -implicitDefEqProofs [h0, h1, h4, h6, h7, hlt]
    refine callq_go (r := bl false) (fun h => by cases h) ?_
    simp -implicitDefEqProofs [h0, h1, h4, h6, h7, hlt]
    refine callq_go (r := bl false) (fun h => by cases h) ?_
    simp -implicitDefEqProofs [h0, h1, h4, h6, h7, hlt]
    exact hexit _ (by simp [h0]) (by simp [h1]) (by simp [h4]) (by simp [h6]) (by simp [h7]; rw [← hr])
  | succ k ih =>
    intro e env he hr h0 h1 h4 h6 h7
    refine li_go hm l32_0.eq_1 ?_
    have hlt : e < l.length := by omega
    have hb : l[e].toNat < 256 := l[e].toNat_lt
    obtain ⟨q2, q3, _, _⟩ := cls_at hb
    simp -implicitDefEqProofs [h0, h1, h4, h6, h7, hlt]
    refine callq_st (r := bl (ltrB l[e].toNat)) (fun _ => by rw [st_u8]; exact ok35 _ hb) ?_
    by_cases hL : ltrB l[e].toNat = true
    · have hc : cAt l e ∈ [(2 : Int), 3] := by rw [cAt_get hlt, q2.2 hL]; simp
      simp -implicitDefEqProofs [h0, h1, h4, h6, h7, hlt, hL]
      refine callq_off _ _ _ _ ?_
      simp -implicitDefEqProofs [h0, h1, h4, h6, h7, hlt, hL]
      exact ih (e + 1) _ (by omega) (by rw [← hr]; exact (runE_step hlt hc).symm) (by simp [h0]) (by simp [h1]) (by simp [h4]) (by simp [h6]) (by simp [wrap_suc (show e < 9223372036854775807 by omega)])
    · rw [Bool.not_eq_true] at hL
      simp -implicitDefEqProofs [h0, h1, h4, h6, h7, hlt, hL]
      refine callq_st (r := bl (dgtB l[e].toNat)) (fun _ => by rw [st_u8]; exact ok43 _ hb) ?_
      by_cases hD : dgtB l[e].toNat = true
      · have hc : cAt l e ∈ [(2 : Int), 3] := by rw [cAt_get hlt, q3.2 hD]; simp
        simp -implicitDefEqProofs [h0, h1, h4, h6, h7, hlt, hD]
        exact ih (e + 1) _ (by omega) (by rw [← hr]; exact (runE_step hlt hc).symm) (by simp [h0]) (by simp [h1]) (by simp [h4]) (by simp [h6]) (by simp [wrap_suc (show e < 9223372036854775807 by omega)])
      · rw [Bool.not_eq_true] at hD
        have hc : cAt l e ∉ [(2 : Int), 3] := by
          rw [cAt_get hlt]
          intro hm
          rcases List.mem_cons.1 hm with h | h
          · rw [q2.1 h] at hL; cases hL
          · rw [q3.1 (List.mem_singleton.1 h)] at hD; cases hD
        have hs := runE_stop (l := l) (cs := [2, 3]) (e := e) (fun h => hc h.2)
        rw [hs] at hr
        simp -implicitDefEqProofs [h0, h1, h4, h6, h7, hlt, hD]
        exact hexit _ (by simp [h0]) (by simp [h1]) (by simp [h4]) (by simp [h6]) (by simp [h7]; rw [← hr])
theorem loop32_1 (hl : l.length < 4611686018427387904) {N : Nat} {K : XE → Env → List AO → Prop} {p : Nat} {x4 x6 : SV}
    (hexit : ∀ env, env.get 0 = st (B l) → env.get 1 = i64 p → env.get 4 = x4 → env.get 6 = x6 → env.get 7 = i64 (runE l [3] p) → K (.exit 2) env H) :
    ∀ (k e : Nat) (env : Env), e + k = l.length → runE l [3] e = runE l [3] p → env.get 0 = st (B l) → env.get 1 = i64 p → env.get 4 = x4 → env.get 6 = x6 → env.get 7 = i64 e → LI Tryd.prog N drawB l32_1 env H K := by
  intro k
  induction k with
  | zero =>
    intro e env he hr h0 h1 h4 h6 h7
    refine li_go hm l32_1.eq_1 ?_
    have hlt : ¬ e < l.length := by omega
    have hs := runE_stop (l := l) (cs := [3]) (e := e) (by omega)
    rw [hs] at hr
    simp -implicitDefEqProofs [h0, h1, h4, h6, h7, hlt]
    refine callq_go (r := bl false) (fun h => by cases h) ?_
    simp -implicitDefEqProofs [h0, h1, h4, h6, h7, hlt]
    exact hexit _ (by simp [h0]) (by simp [h1]) (by simp [h4]) (by simp [h6]) (by simp [h7]; rw [← hr])
  | succ k ih =>
    intro e env he hr h0 h1 h4 h6 h7
    refine li_go hm l32_1.eq_1 ?_
    have hlt : e < l.length := by omega
    have hb : l[e].toNat < 256 := l[e].toNat_lt
    obtain ⟨q2, q3, _, _⟩ := cls_at hb
    simp -implicitDefEqProofs [h0, h1, h4, h6, h7, hlt]
    refine callq_st (r := bl (dgtB l[e].toNat)) (fun _ => by rw [st_u8]; exact ok43 _ hb) ?_
    by_cases hD : dgtB l[e].toNat = true
    · have hc : cAt l e ∈ [(3 : Int)] := by rw [cAt_get hlt, q3.2 hD]; simp
      simp -implicitDefEqProofs [h0, h1, h4, h6, h7, hlt, hD]
      exact ih (e + 1) _ (by omega) (by rw [← hr]; exact (runE_step hlt hc).symm) (by simp [h0]) (by simp [h1]) (by simp [h4]) (by simp [h6]) (by simp [wrap_suc (show e < 9223372036854775807 by omega)])
    · rw [Bool.not_eq_true] at hD
      have hc : cAt l e ∉ [(3 : Int)] := by
        rw [cAt_get hlt]
        intro hm
        rw [q3.1 (List.mem_singleton.1 hm)] at hD; cases hD
      have hs := runE_stop (l := l) (cs := [3]) (e := e) (fun h => hc h.2)
      rw [hs] at hr
      simp -implicitDefEqProofs [h0, h1, h4, h6, h7, hlt, hD]
      exact hexit _ (by simp [h0]) (by simp [h1]) (by simp [h4]) (by simp [h6]) (by simp [h7]; rw [← hr])
end
end Go.Proofs.YtjbhokoihamhiaaDoor
/- T17 -/
namespace Go.Proofs.YtjbhokoihamhiaaDoor
open Go.Ab
/-- What next returns. -/
def nxV (l : List UInt8) (p : Nat) : SV :=
  match stepT l p with
  | .tok t q => .tup [t.v, i64 q, fltV 0 0]
  | .flt e => .tup [zT, i64 p, fltV e p]
  | .skip _ => .any
/-- No word begins behind a digit. -/
def okP (l : List UInt8) (p : Nat) : Prop := ¬ (cAt l p = 2 ∧ 0 < p ∧ cAt l (p - 1) = 3)
section
variable {H : List AO} {l : List UInt8}
theorem cut_ne {p q : Nat} (h : p < q) (hq : q ≤ l.length) : cut l p q ≠ [] := fun e => by have := cut_len (l := l) (Nat.le_of_lt h) hq; rw [e, List.length_nil] at this; omega
theorem dbl_iff (r : List UInt8) : isDbl r = true ↔ r.take 2 ∈ dbls := by
  have h2 : ∀ p ∈ dbls, p.length = 2 := by decide
  unfold isDbl
  rw [List.any_eq_true]
  constructor
  · rintro ⟨d, hd, hp⟩
    have := List.prefix_iff_eq_take.1 (List.isPrefixOf_iff_prefix.1 hp)
    rw [h2 d hd] at this
    rw [← this]; exact hd
  · intro h
    exact ⟨_, h, List.isPrefixOf_iff_prefix.2 (List.take_prefix 2 r)⟩
theorem mk0 {p : Nat} {k : Int} : mkStp l p k p = .flt 11 := by
  have hc : cut l p p = [] := by simp [cut]
  have : whE l k (cut l p p) p = (11, 0) := by unfold whE; rw [if_pos (.inl hc)]
  unfold mkStp
  rw [this]; simp
theorem mk3 {p q : Nat} (h : p < q) (hq : q ≤ l.length) : mkStp l p 3 q = .tok ⟨3, cut l p q, 0, p⟩ q := by
  have : whE l 3 (cut l p q) p = (0, 0) := by
    unfold whE
    rw [if_neg (by rintro (h1 | h1); exact cut_ne h hq h1; exact absurd h1.1 (by decide)), if_neg (fun h => absurd h.1 (by decide)), if_pos (by decide)]
  unfold mkStp
  rw [this]; simp
theorem st_st (s : ByteArray) : [SV.gd true (st s)].map SV.strip = [st s] := by simp only [List.map_cons, List.map_nil, SV.strip, st]
theorem ok32 (hl : l.length < 4611686018427387904) {p : Nat} (hp : p < l.length) (hw : cAt l p ≠ 1) (hc : l.getD p 0 ≠ 35) (ho : okP l p) : Ok Tryd.prog 32 [st (B l), i64 p] H (.ret (nxV l p)) H := by
  refine ok_fn hm Tryd.func32 c32 (by simp) fun hcl => ?_
  have hb : l[p].toNat < 256 := l[p].toNat_lt
  have hg : l.getD p 0 = l[p] := by simp [hp]
  obtain ⟨q2, q3, q1, q4⟩ := cls_at hb
  rw [← cAt_get hp] at q1 q2 q3 q4
  simp -implicitDefEqProofs [i32, r32, hp]
  refine call_go (ok35 _ hb) ?_
  by_cases c2 : cAt l p = 2
  · have hL := q2.1 c2
    have hs : stepT l p = mkStp l p 1 (runE l [2, 3] p) := by simp [stepT, c2]
    have hlt : p < runE l [2, 3] p := by rw [runE_step hp (by rw [c2]; simp)]; have := runE_le (l := l) (cs := [2, 3]) (p + 1); omega
    have hle : runE l [2, 3] p ≤ l.length := runE_len (by omega)
    generalize hq : runE l [2, 3] p = q at hs hlt hle
    have hne := cut_ne hlt hle
    have hlen := cut_len (l := l) (Nat.le_of_lt hlt) hle
    have hwh : whE l 1 (cut l p q) p = if 40 < q - p then (4, 0) else (0, 0) := by
      unfold whE
      rw [if_neg (by rintro (h | h); exact hne h; exact ho ⟨c2, h.2⟩), hlen]
      split
      · rename_i h; rw [if_pos h.2]
      · rename_i h; rw [if_neg (fun h2 => h ⟨rfl, h2⟩), if_pos (by decide)]
    have w : IntKind.i64.wrap ((q : Int) - (p : Int)) = ((q - p : Nat) : Int) := by rw [wrap_id (by omega) (by omega)]; omega
    simp -implicitDefEqProofs [hL]
    refine loop32_0 hl (p := p) (x4 := .ptr (.own H.length 0 0 0 0) 0) (x6 := .ptr (.own (H.length + 1) 0 0 0 0) 0) (fun env h0 h1 h4 h6 h7 => ?_) (l.length - p) p _ (by omega) rfl (by simp) (by simp) (by simp) (by simp) (by simp)
    rw [hq] at h7
    simp -implicitDefEqProofs [h0, h1, h4, h6, h7, w]
    split
    · rename_i h40
      have hr : nxV l p = .tup [zT, i64 p, fltV 4 p] := by unfold nxV; rw [hs]; unfold mkStp; rw [show whE l 1 (cut l p q) p = (4, 0) by rw [hwh, if_pos (by omega)]]; simp
      rw [hr]
      exact cv_fz 4 hcl rfl (by simp [zT, fltV])
    · rename_i h40
      have hr : nxV l p = .tup [.agg [i64 1, st (B (cut l p q)), i64 0, i64 p], i64 q, fltV 0 0] := by unfold nxV; rw [hs]; unfold mkStp; rw [show whE l 1 (cut l p q) p = (0, 0) by rw [hwh, if_neg (by omega)]]; simp [Tok.v, Tok.c]
      rw [hr]
      exact ⟨⟨by omega, by omega⟩, cv_fz 4 hcl rfl (by simp [cut, fltV])⟩
  · have hL : ltrB l[p].toNat = false := by rw [← Bool.not_eq_true]; exact fun h => c2 (q2.2 h)
    simp -implicitDefEqProofs [hL, hp]
    refine call_go (ok43 _ hb) ?_
    by_cases c3 : cAt l p = 3
    · have hD := q3.1 c3
      have hs : stepT l p = mkStp l p 2 (runE l [3] p) := by simp [stepT, c3]
      have hlt : p < runE l [3] p := by rw [runE_step hp (by rw [c3]; simp)]; have := runE_le (l := l) (cs := [3]) (p + 1); omega
      have hle : runE l [3] p ≤ l.length := runE_len (by omega)
      have hdg := run_digits (l := l) (p := p)
      generalize hq : runE l [3] p = q at hs hlt hle hdg
      have hne := cut_ne hlt hle
      have hlen := cut_len (l := l) (Nat.le_of_lt hlt) hle
      have hwh : whE l 2 (cut l p q) p = numW (cut l p q) := by
        unfold whE numW
        rw [if_neg (by rintro (h | h); exact hne h; exact absurd h.1 (by decide)), if_neg (fun h => absurd h.1 (by decide)), if_neg (by decide)]
      simp -implicitDefEqProofs [hD]
      refine loop32_1 hl (p := p) (x4 := .ptr (.own H.length 0 0 0 0) 0) (x6 := .ptr (.own (H.length + 1) 0 0 0 0) 0) (fun env h0 h1 h4 h6 h7 => ?_) (l.length - p) p _ (by omega) rfl (by simp) (by simp) (by simp) (by simp) (by simp)
      rw [hq] at h7
      have hcut : (l.drop p).take (q - p) = cut l p q := rfl
      simp -implicitDefEqProofs [h0, h1, h4, h6, h7, hcut]
      refine ⟨⟨by omega, by omega⟩, call_go (ok44 hdg hne (by omega)) ?_⟩
      by_cases he : (numW (cut l p q)).1 = 0
      · have hr : nxV l p = .tup [.agg [i64 2, st (B (cut l p q)), i64 (numW (cut l p q)).2, i64 p], i64 q, fltV 0 0] := by unfold nxV; rw [hs]; unfold mkStp; rw [hwh, if_neg (by omega)]; simp [Tok.v, Tok.c]
        rw [hr]
        simp -implicitDefEqProofs [h0, h1, h4, h6, h7, he, hcut]
        exact ⟨⟨by omega, by omega⟩, cv_fz 4 hcl rfl (by simp [fltV])⟩
      · have hr : nxV l p = .tup [zT, i64 p, fltV (numW (cut l p q)).1 p] := by unfold nxV; rw [hs]; unfold mkStp; rw [hwh, if_pos he]
        rw [hr]
        simp -implicitDefEqProofs [h0, h1, h4, h6, h7, he]
        exact cv_fz 4 hcl rfl (by simp [zT, fltV])
    · have hD : dgtB l[p].toNat = false := by rw [← Bool.not_eq_true]; exact fun h => c3 (q3.2 h)
      have w2 : IntKind.i64.wrap ((p : Int) + 2) = ((p + 2 : Nat) : Int) := by rw [wrap_id (by omega) (by omega)]; rfl
      have w1 : IntKind.i64.wrap ((p : Int) + 1) = ((p + 1 : Nat) : Int) := by rw [wrap_id (by omega) (by omega)]; rfl
      have tn2 : ((p : Int) + 2).toNat = p + 2 := by omega
      have tn1 : ((p : Int) + 1).toNat = p + 1 := by omega
      have hdb := dbl_iff (l.drop p)
      have hc2l : (l.drop p).take 2 ∈ dbls → p + 2 ≤ l.length := by
        intro h
        have h2 : ∀ p ∈ dbls, p.length = 2 := by decide
        have := h2 _ h
        simp at this; omega
      -- the rest, behind the two-byte signs
      have single : ¬ (l.drop p).take 2 ∈ dbls → nxV l p = (if l[p] ∈ sgls then .tup [.agg [i64 3, st (B (cut l p (p + 1))), i64 0, i64 p], i64 ((p + 1 : Nat) : Int), fltV 0 0] else .tup [zT, i64 p, fltV 11 p]) := by
        intro hnd
        have hnb : isDbl (l.drop p) = false := by rw [← Bool.not_eq_true]; exact fun h => hnd (hdb.1 h)
        have hsg : l[p] ∈ sgls ↔ l[p].toNat ∈ ([123, 125, 40, 41, 58, 59, 44, 43, 45, 42, 47, 37, 60, 62, 61] : List Nat) := by
          have e : ([123, 125, 40, 41, 58, 59, 44, 43, 45, 42, 47, 37, 60, 62, 61] : List Nat) = sgls.map UInt8.toNat := by decide
          rw [e, List.mem_map]
          exact ⟨fun h => ⟨_, h, rfl⟩, fun ⟨c, h1, h2⟩ => by rw [← UInt8.toNat_inj.1 h2]; exact h1⟩
        by_cases c4 : cAt l p = 4
        · have hs : stepT l p = mkStp l p 3 (signE l p) := by simp [stepT, c4]
          by_cases h33 : l[p] = 33 ∨ l[p] = 46
          · have hse : signE l p = p := by unfold signE; rw [hnb, if_neg (by simp), hg, if_pos h33]
            have hns : l[p] ∉ sgls := by rcases h33 with h | h <;> rw [h] <;> decide
            unfold nxV
            rw [hs, hse, mk0, if_neg hns]
          · have hse : signE l p = p + 1 := by unfold signE; rw [hnb, if_neg (by simp), hg, if_neg h33]
            have hys : l[p] ∈ sgls := by
              rcases q4.1 c4 with h | h
              · exact absurd (h.imp (fun h => UInt8.toNat_inj.1 h) (fun h => UInt8.toNat_inj.1 h)) h33
              · exact hsg.2 h
            unfold nxV
            rw [hs, hse, mk3 (by omega) (by omega), if_pos hys]; rfl
        · have hs : stepT l p = mkStp l p 0 p := by unfold stepT; rw [if_neg hw, if_neg c2, if_neg c3, if_neg c4, if_neg hc]
          have hns : l[p] ∉ sgls := fun h => c4 (q4.2 (.inr (hsg.1 h)))
          unfold nxV
          rw [hs, mk0, if_neg hns]
      by_cases hp2 : p + 2 ≤ l.length
      · have hp2' : (p : Int) + 2 ≤ l.length := by omega
        simp -implicitDefEqProofs [hD, w2, w1, tn2, hp2', hp2]
        refine ⟨by omega, callq_st (r := bl (decide ((l.drop p).take 2 ∈ dbls))) (fun _ => by rw [st_st]; exact ok45 _) ?_⟩
        by_cases hd : (l.drop p).take 2 ∈ dbls
        · have hr : nxV l p = .tup [.agg [i64 3, st (B (cut l p (p + 2))), i64 0, i64 p], i64 ((p + 2 : Nat) : Int), fltV 0 0] := by
            have c4 : cAt l p = 4 := by
              have : ∀ d ∈ dbls, cls (d.getD 0 0).toNat = 4 := by decide
              have h := this _ hd
              rw [cAt_get hp]
              have e : ((l.drop p).take 2).getD 0 0 = l[p] := by rw [List.drop_eq_getElem_cons hp]; rfl
              rw [e] at h; exact h
            have hs : stepT l p = mkStp l p 3 (signE l p) := by simp [stepT, c4]
            have hse : signE l p = p + 2 := by unfold signE; rw [if_pos (hdb.2 hd)]
            unfold nxV
            rw [hs, hse, mk3 (by omega) (by omega)]; rfl
          rw [hr]
          simp -implicitDefEqProofs [hd, hp2', hp2, w2, tn2]
          exact ⟨by omega, cv_fz 4 hcl rfl (by simp [cut, fltV])⟩
        · rw [single hd]
          simp -implicitDefEqProofs [hd]
          refine call_go (ok46 l[p]) ?_
          simp -implicitDefEqProofs [w1, tn1]
          split
          · exact ⟨⟨by omega, by omega⟩, cv_fz 4 hcl rfl (by simp [cut, fltV, *])⟩
          · exact cv_fz 4 hcl rfl (by simp [zT, fltV, *])
      · have hp2' : ¬ (p : Int) + 2 ≤ l.length := by omega
        have hd : ¬ (l.drop p).take 2 ∈ dbls := fun h => hp2 (hc2l h)
        simp -implicitDefEqProofs [hD, w2, w1, tn2, hp2', hp2]
        refine callq_go (r := bl false) (fun h => by cases h) ?_
        rw [single hd]
        simp -implicitDefEqProofs
        refine call_go (ok46 l[p]) ?_
        simp -implicitDefEqProofs [w1, tn1]
        split
        · exact ⟨⟨by omega, by omega⟩, cv_fz 4 hcl rfl (by simp [cut, fltV, *])⟩
        · exact cv_fz 4 hcl rfl (by simp [zT, fltV, *])
end
end Go.Proofs.YtjbhokoihamhiaaDoor
/- T18 -/
namespace Go.Proofs.YtjbhokoihamhiaaDoor
open Go.Ab
section
variable {H : List AO} {l : List UInt8}
theorem comE_step {e : Nat} (h : e < l.length) (hc : l[e] ≠ 10) : e + comE (l.drop e) = (e + 1) + comE (l.drop (e + 1)) := by
  rw [List.drop_eq_getElem_cons h]; simp [comE, hc]; omega
theorem comE_stop {e : Nat} (h : e < l.length) (hc : l[e] = 10) : e + comE (l.drop e) = e := by
  rw [List.drop_eq_getElem_cons h]; simp [comE, hc]
theorem comE_nl : ∀ {r : List UInt8} (h : comE r < r.length), r[comE r] = 10
  | [], h => by simp at h
  | c :: r, h => by
    by_cases hc : c = 10
    · simp [comE, hc]
    · simp only [comE, hc, if_false, List.length_cons] at h ⊢
      have := comE_nl (r := r) (by omega)
      simpa using this
theorem loop16_1 (hl : l.length < 4611686018427387904) {N : Nat} {K : XE → Env → List AO → Prop} {p : Nat} {x3 x4 : SV}
    (hexit : ∀ env, env.get 0 = st (B l) → env.get 3 = x3 → env.get 4 = x4 → env.get 5 = i64 ((p + comE (l.drop p) : Nat) : Int) → K (.exit 2) env H) :
    ∀ (k e : Nat) (env : Env), e + k = l.length → e + comE (l.drop e) = p + comE (l.drop p) → env.get 0 = st (B l) → env.get 3 = x3 → env.get 4 = x4 → env.get 5 = i64 e → LI Tryd.prog N drawB l16_1 env H K := by
  intro k
  induction k with
  | zero =>
    intro e env he hr h0 h3 h4 h5
    refine li_go hm l16_1.eq_1 ?_
    have hlt : ¬ e < l.length := by omega
    have hz : comE (l.drop e) = 0 := by rw [List.drop_eq_nil_of_le (by omega)]; rfl
    simp -implicitDefEqProofs [h0, h3, h4, h5, hlt]
    exact hexit _ (by simp [h0]) (by simp [h3]) (by simp [h4]) (by simp [h5]; rw [← Int.natCast_add, ← hr, hz]; rfl)
  | succ k ih =>
    intro e env he hr h0 h3 h4 h5
    refine li_go hm l16_1.eq_1 ?_
    have hlt : e < l.length := by omega
    have f1 : ((l[e].toNat : Int) = 10) ↔ l[e] = 10 := u8i l[e] 10
    by_cases hc : l[e] = 10
    · have hz := comE_stop hlt hc
      simp -implicitDefEqProofs [h0, h3, h4, h5, hlt, hc]
      exact hexit _ (by simp [h0]) (by simp [h3]) (by simp [h4]) (by simp [h5]; rw [← Int.natCast_add, ← hr, hz])
    · have hc' : ¬ ((l[e].toNat : Int) = 10) := fun h => hc (f1.1 h)
      simp -implicitDefEqProofs [h0, h3, h4, h5, hlt, hc']
      exact ih (e + 1) _ (by omega) (by rw [← hr]; exact (comE_step hlt hc).symm) (by simp [h0]) (by simp [h3]) (by simp [h4]) (by simp [wrap_suc (show e < 9223372036854775807 by omega)])
theorem cAt_out {p : Nat} (h : l.length ≤ p) : cAt l p = 0 := by
  have : l.getD p 0 = 0 := by simp [h]
  unfold cAt; rw [this]; rfl
theorem mkStp_tok {p q q' : Nat} {k : Int} {t : Tok} (h : mkStp l p k q = .tok t q') : q' = q ∧ t.k = k ∧ t.p = p := by
  unfold mkStp at h
  split at h
  · cases h
  · cases h; exact ⟨rfl, rfl, rfl⟩
theorem runN_stop {cs : List Int} : ∀ (n e : Nat), l.length ≤ e + n → ¬ (runN l cs n e < l.length ∧ cAt l (runN l cs n e) ∈ cs)
  | 0, e, h => by simp only [runN]; omega
  | n + 1, e, h => by
    simp only [runN]
    split
    · exact runN_stop n (e + 1) (by omega)
    · rename_i hc; exact hc
theorem okP_next {p q : Nat} {t : Tok} (hp : p < l.length) (h : stepT l p = .tok t q) (hn : t.k = 2 → cAt l q ≠ 2) : okP l q ∧ q ≤ l.length ∧ p < q := by
  have run_stop : ∀ cs e, cAt l (runE l cs e) ∉ cs ∨ l.length ≤ runE l cs e := by
    intro cs e
    have := runN_stop (l := l) (cs := cs) (l.length - e) e (by omega)
    by_cases h : l.length ≤ runE l cs e
    · exact .inr h
    · exact .inl fun h2 => this ⟨by unfold runE at h; omega, h2⟩
  unfold stepT at h
  split at h
  · cases h
  · split at h
    · obtain ⟨rfl, hk, _⟩ := mkStp_tok h
      have h3 := mkStp_lt h
      refine ⟨fun ⟨h1, _⟩ => ?_, runE_len (by omega), h3⟩
      rcases run_stop [2, 3] p with h2 | h2
      · exact h2 (by rw [h1]; simp)
      · rw [cAt_out h2] at h1; cases h1
    · split at h
      · obtain ⟨rfl, hk, _⟩ := mkStp_tok h
        exact ⟨fun ⟨h1, _⟩ => hn hk h1, runE_len (by omega), mkStp_lt h⟩
      · split at h
        · rename_i c4
          obtain ⟨rfl, hk, _⟩ := mkStp_tok h
          have h3 := mkStp_lt h
          refine ⟨fun ⟨_, _, h2⟩ => ?_, (signE_rng hp).2, h3⟩
          unfold signE at h2 h3
          split at h2
          · rename_i hd
            rw [if_pos hd] at h3
            have hm := (dbl_iff _).1 hd
            have hlen : p + 2 ≤ l.length := by
              have h2 : ∀ p ∈ dbls, p.length = 2 := by decide
              have := h2 _ hm
              simp at this; omega
            have hcl : ∀ d ∈ dbls, cls (d.getD 1 0).toNat = 4 := by decide
            have h4 := hcl _ hm
            have e : ((l.drop p).take 2).getD 1 0 = l.getD (p + 1) 0 := by simp
            rw [e] at h4
            have : p + 2 - 1 = p + 1 := by omega
            rw [this] at h2
            unfold cAt at h2
            rw [h2] at h4; cases h4
          · rename_i hd
            rw [if_neg hd] at h3
            split at h2
            · rename_i h33; rw [if_pos h33] at h3; omega
            · have : p + 1 - 1 = p := by omega
              rw [this, c4] at h2; cases h2
        · split at h
          · cases h
          · obtain ⟨rfl, _, _⟩ := mkStp_tok h
            have := mkStp_lt h
            omega
theorem stepT_p {p q : Nat} {t : Tok} (h : stepT l p = .tok t q) : t.p = p := by
  unfold stepT at h
  split at h
  · cases h
  · split at h
    · exact (mkStp_tok h).2.2
    · split at h
      · exact (mkStp_tok h).2.2
      · split at h
        · exact (mkStp_tok h).2.2
        · split at h
          · cases h
          · exact (mkStp_tok h).2.2
theorem mkq {p q : Nat} {t : Tok} (h : stepT l p = .tok t q) (hp : p < l.length) : p < q ∧ q ≤ l.length := by
  unfold stepT at h
  split at h
  · cases h
  · split at h
    · have := (mkStp_tok h).1; subst this; exact ⟨mkStp_lt h, runE_len (by omega)⟩
    · split at h
      · have := (mkStp_tok h).1; subst this; exact ⟨mkStp_lt h, runE_len (by omega)⟩
      · split at h
        · have := (mkStp_tok h).1; subst this; exact ⟨mkStp_lt h, (signE_rng hp).2⟩
        · split at h
          · cases h
          · have := (mkStp_tok h).1; subst this; exact ⟨mkStp_lt h, by omega⟩
/-- A word behind a number is a fault. -/
theorem num_next {p q : Nat} {t : Tok} (hp : p < l.length) (h : stepT l p = .tok t q) (hk : t.k = 2) (hq : q < l.length) (hc : cAt l q = 2) : stepT l q = .flt 11 := by
  have h2 : q = runE l [3] p ∧ p < q := by
    unfold stepT at h
    split at h
    · cases h
    · split at h
      · have := (mkStp_tok h).2.1; omega
      · split at h
        · exact ⟨(mkStp_tok h).1, by have := (mkStp_tok h).1; subst this; exact mkStp_lt h⟩
        · split at h
          · have := (mkStp_tok h).2.1; omega
          · split at h
            · cases h
            · have := (mkStp_tok h).2.1; omega
  obtain ⟨rfl, hlt⟩ := h2
  have hd := (runN_all (l := l) (cs := [3]) (l.length - p) p (runE l [3] p - 1) (by omega) (by unfold runE at hlt ⊢; omega)).2
  have h3 : cAt l (runE l [3] p - 1) = 3 := by simpa using hd
  generalize runE l [3] p = q at *
  have hs : stepT l q = mkStp l q 1 (runE l [2, 3] q) := by simp [stepT, hc]
  have hw : (whE l 1 (cut l q (runE l [2, 3] q)) q) = (11, 0) := by unfold whE; rw [if_pos (.inr ⟨rfl, by omega, h3⟩)]
  rw [hs]; unfold mkStp; rw [hw]; simp
end
end Go.Proofs.YtjbhokoihamhiaaDoor
/- T19 -/
namespace Go.Proofs.YtjbhokoihamhiaaDoor
open Go.Ab
def sR (H : List AO) (f : Int × Int) (ts : List Tok) (L : List AO) : List AO := H ++ ⟨[i64 f.1, i64 f.2], 32, 0, true⟩ :: rwT ts :: L
section
variable {H : List AO} {l : List UInt8}
theorem loop16_0 (hl : l.length < 4611686018427387904) {es : List Ev} (hes : ∀ e p, Ev.flt e p ∈ es → e ≠ 0) {N : Nat} {K : XE → Env → List AO → Prop}
    (hret : (fltE 0 es).1 ≠ 0 → ∀ env ts L, env.get 2 = .val (.slice none 0 0) → env.get 3 = .ptr (.own H.length 0 0 0 0) 0 → K .ret env (sR H (fltE 0 es) ts L))
    (hexit : fltE 0 es = (0, 0) → ∀ env L, env.get 3 = .ptr (.own H.length 0 0 0 0) 0 → env.get 4 = .own (H.length + 1) 0 (toks es).length 4 (toks es).length → K (.exit 0) env (sR H (0, 0) (toks es) L)) :
    ∀ (n p i : Nat) (env : Env) (L : List AO), l.length ≤ p + n → evs l n p = es.drop i → (toks (es.take i)).length = i → i ≤ es.length → i ≤ 5000 → fltE 0 es = fltE i (es.drop i) → okP l p → env.get 0 = st (B l) →
      env.get 3 = .ptr (.own H.length 0 0 0 0) 0 → env.get 4 = .own (H.length + 1) 0 i 4 i → env.get 5 = i64 p → LI Tryd.prog N drawB l16_0 env (sR H (0, 0) (toks (es.take i)) L) K := by
  intro n
  induction n with
  | zero =>
    intro p i env L hn he ht hi h5k hf ho h0 h3 h4 h5
    refine li_go hm l16_0.eq_1 ?_
    have hp : ¬ p < l.length := by omega
    have e : i = es.length := by
      have := congrArg List.length he
      simp [evs] at this; omega
    subst e
    rw [List.drop_length] at hf
    rw [List.take_length] at ht ⊢
    simp -implicitDefEqProofs [h0, h3, h4, h5, hp]
    exact hexit hf _ _ (by simp [h3]) (by simp [h4, ht])
  | succ n ih =>
    intro p i env L hn he ht hi h5k hf ho h0 h3 h4 h5
    refine li_go hm l16_0.eq_1 ?_
    by_cases hp : p < l.length
    · have hb : l[p].toNat < 256 := l[p].toNat_lt
      obtain ⟨q2, q3, q1, q4⟩ := cls_at hb
      rw [← cAt_get hp] at q1 q2 q3 q4
      have hg : l.getD p 0 = l[p] := by simp [hp]
      have f1 : ((l[p].toNat : Int) = 35) ↔ l[p] = 35 := u8i l[p] 35
      simp only [evs, if_pos hp] at he
      simp -implicitDefEqProofs [h0, h3, h4, h5, hp]
      refine call_go (ok31 _ hb) ?_
      by_cases c1 : cAt l p = 1
      · have hW := q1.1 c1
        have hs : stepT l p = .skip (p + 1) := by simp [stepT, c1]
        rw [hs] at he
        simp -implicitDefEqProofs [h0, h3, h4, h5, hp, hW]
        exact ih (p + 1) i _ _ (by omega) he ht hi h5k hf (fun ⟨_, _, h2⟩ => by rw [show p + 1 - 1 = p by omega, c1] at h2; cases h2) (by simp [h0]) (by simp [h3]) (by simp [h4]) (by simp [wrap_suc (show p < 9223372036854775807 by omega)])
      · have hW : whtB l[p].toNat = false := by rw [← Bool.not_eq_true]; exact fun h => c1 (q1.2 h)
        by_cases c5 : l[p] = 35
        · have hcl : cAt l p = 0 := by rw [cAt_get hp, c5]; decide
          have hs : stepT l p = .skip (p + comE (l.drop p)) := by simp [stepT, hcl, hp, c5]
          rw [hs] at he
          have hpos := comE_pos hp (by rw [hg, c5])
          have hcl2 := comE_le (l.drop p)
          simp -implicitDefEqProofs [h0, h3, h4, h5, hp, hW, f1.2 c5]
          refine loop16_1 hl (p := p) (x3 := .ptr (.own H.length 0 0 0 0) 0) (x4 := .own (H.length + 1) 0 i 4 i) (fun env g0 g3 g4 g5 => ?_) (l.length - p) p _ (by omega) rfl (by simp [h0]) (by simp [h3]) (by simp [h4]) (by simp [h5])
          simp -implicitDefEqProofs
          refine ih (p + comE (l.drop p)) i _ _ (by omega) he ht hi h5k hf (fun ⟨h1, _⟩ => ?_) (by simp [g0]) (by simp [g3]) (by simp [g4]) (by simp [g5])
          by_cases hlt : comE (l.drop p) < (l.drop p).length
          · have := comE_nl hlt
            rw [List.getElem_drop] at this
            have hlt2 : p + comE (l.drop p) < l.length := by simp at hlt; omega
            rw [cAt_get hlt2, this] at h1
            exact absurd h1 (by decide)
          · rw [cAt_out (by simp at hlt; omega)] at h1; cases h1
        · have hc' : ¬ ((l[p].toNat : Int) = 35) := fun h => c5 (f1.1 h)
          simp -implicitDefEqProofs [h0, h3, h4, h5, hp, hW, hc']
          refine call_go (ok32 hl hp c1 (by rw [hg]; exact c5) ho) ?_
          cases hst : stepT l p with
          | skip q =>
            exfalso
            unfold stepT at hst
            rw [if_neg c1] at hst
            have key : ∀ k q', mkStp l p k q' ≠ .skip q := by intro k q' h; unfold mkStp at h; split at h <;> cases h
            split at hst
            · exact key _ _ hst
            · split at hst
              · exact key _ _ hst
              · split at hst
                · exact key _ _ hst
                · rw [if_neg (by rw [hg]; exact c5)] at hst
                  exact key _ _ hst
          | flt e =>
            have hnx : nxV l p = .tup [zT, i64 p, fltV e p] := by unfold nxV; rw [hst]
            rw [hst] at he
            have hd : es.drop i = [.flt e p] := he.symm
            have he0 : e ≠ 0 := hes e p (List.mem_of_mem_drop (by rw [hd]; simp))
            rw [hd] at hf
            simp only [fltE] at hf
            rw [hnx]
            simp -implicitDefEqProofs [h0, h3, h4, h5, zT, fltV, sR, he0]
            have hr := hret (by rw [hf]; exact he0)
            rw [hf] at hr
            exact hr _ _ _ (by simp) (by simp [h3])
          | tok t q =>
            have hnx : nxV l p = .tup [t.v, i64 q, fltV 0 0] := by unfold nxV; rw [hst]
            rw [hst] at he
            have hd : es.drop i = .tok t :: evs l n q := he.symm
            have hlt : i < es.length := by
              have := congrArg List.length hd
              simp at this; omega
            have hei : es[i] = .tok t := by rw [List.drop_eq_getElem_cons hlt] at hd; exact (List.cons.inj hd).1
            have hd2 : evs l n q = es.drop (i + 1) := by rw [List.drop_eq_getElem_cons hlt] at hd; exact (List.cons.inj hd).2.symm
            have htk : es.take (i + 1) = es.take i ++ [.tok t] := by rw [List.take_succ_eq_append_getElem hlt, hei]
            have hto : toks (es.take (i + 1)) = toks (es.take i) ++ [t] := by rw [htk, toks_app]; rfl
            have htp := stepT_p hst
            rw [hd] at hf
            simp only [fltE] at hf
            rw [hnx]
            by_cases h5i : i = 5000
            · rw [if_pos h5i] at hf
              subst h5i
              simp -implicitDefEqProofs [h0, h3, h4, h5, fltV, sR, Tok.v, Tok.c]
              have hr := hret (by rw [hf]; exact (by decide : (12 : Int) ≠ 0))
              rw [hf, htp] at hr
              exact hr _ _ _ (by simp) (by simp [h3])
            · rw [if_neg h5i] at hf
              have h5i' : ¬ ((i : Int) = 5000) := by omega
              have hrow : (toks (es.take i)).length = i := ht
              have fin : ∀ env : Env, okP l q → env.get 0 = st (B l) → env.get 3 = .ptr (.own H.length 0 0 0 0) 0 → env.get 4 = .own (H.length + 1) 0 (i + 1) 4 (i + 1) → env.get 5 = i64 q → ∀ L, LI Tryd.prog N drawB l16_0 env (sR H (0, 0) (toks (es.take i) ++ [t]) L) K := by
                intro env ho' g0 g3 g4 g5 L
                have := ih q (i + 1) env L (by have := (mkq hst hp).1; omega) hd2 (by rw [hto]; simp [hrow]) (by omega) (by omega) (by rw [hf, hd2]) ho' g0 g3 g4 g5
                rw [hto] at this
                exact this
              by_cases hk : t.k = 2 ∧ q < l.length
              · have hbq : l[q].toNat < 256 := l[q].toNat_lt
                have hkd : (decide (t.k = 2) && decide (q < l.length)) = true := by simp [hk]
                simp -implicitDefEqProofs [h0, h3, h4, h5, fltV, sR, h5i', Tok.v, Tok.c, hkd, hk.2, hk.1]
                refine callq_st (r := bl (ltrB l[q].toNat)) (fun _ => by rw [st_u8]; exact ok35 _ hbq) ?_
                by_cases hL : ltrB l[q].toNat = true
                · have hc2 : cAt l q = 2 := by rw [cAt_get hk.2]; exact (cls_at hbq).1.2 hL
                  have hnn := num_next hp hst hk.1 hk.2 hc2
                  have hq := (mkq hst hp)
                  obtain ⟨m, rfl⟩ : ∃ m, n = m + 1 := ⟨n - 1, by omega⟩
                  simp only [evs, if_pos hk.2, hnn, fltE] at hf
                  simp -implicitDefEqProofs [hL]
                  rw [if_pos hk.2]
                  have hr := hret (by rw [hf]; exact (by decide : (11 : Int) ≠ 0))
                  rw [hf] at hr
                  exact hr _ _ _ (by simp) (by simp [h3])
                · rw [Bool.not_eq_true] at hL
                  have hk1 := hk.1
                  have hok := (okP_next hp hst (fun _ hc => by rw [cAt_get hk.2] at hc; rw [(cls_at hbq).1.1 hc] at hL; cases hL)).1
                  simp -implicitDefEqProofs [hL]
                  refine ⟨by omega, by omega, ⟨rfl, hrow, rfl, by show ((toks (es.take i)).flatMap Tok.c).length = _; rw [fm_len]; omega⟩, ?_⟩
                  exact LI.cong (H' := sR H (0, 0) (toks (es.take i) ++ [t]) (L ++ [⟨t.c, 25, 0, true⟩, ⟨[i64 0, i64 0], 32, 0, true⟩, ⟨t.c, 25, 0, true⟩])) (by simp [sR, rwT, Tok.c, hrow, hk1]) (fin _ hok (by simp [h0]) (by simp [h3]) (by simp) (by simp) _)
              · have hk' : (decide (t.k = 2) && decide (q < l.length)) = false := by simp; omega
                simp -implicitDefEqProofs [h0, h3, h4, h5, fltV, sR, h5i', Tok.v, Tok.c, hk']
                refine ⟨fun h1 h2 => ⟨h1, h2⟩, callq_go (r := bl false) (fun h => by cases h) ?_⟩
                have hk1 : True := trivial
                have hok := (okP_next hp hst (fun h hc => by rw [cAt_out (by omega)] at hc; cases hc)).1
                simp -implicitDefEqProofs
                refine ⟨by omega, by omega, ⟨rfl, hrow, rfl, by show ((toks (es.take i)).flatMap Tok.c).length = _; rw [fm_len]; omega⟩, ?_⟩
                exact LI.cong (H' := sR H (0, 0) (toks (es.take i) ++ [t]) (L ++ [⟨t.c, 25, 0, true⟩, ⟨[i64 0, i64 0], 32, 0, true⟩, ⟨t.c, 25, 0, true⟩])) (by simp [sR, rwT, Tok.c, hrow, hk1]) (fin _ hok (by simp [h0]) (by simp [h3]) (by simp) (by simp) _)
    · have e : i = es.length := by
        simp only [evs, if_neg hp] at he
        have := congrArg List.length he
        simp at this; omega
      subst e
      rw [List.drop_length] at hf
      rw [List.take_length] at ht ⊢
      simp -implicitDefEqProofs [h0, h3, h4, h5, hp]
      exact hexit hf _ _ (by simp [h3]) (by simp [h4, ht])
end
end Go.Proofs.YtjbhokoihamhiaaDoor
/- T20 -/
namespace Go.Proofs.YtjbhokoihamhiaaDoor
open Go.Ab
section
variable {H : List AO} {l : List UInt8}
theorem ok16 (hl : l.length < 4611686018427387904) : Ok Tryd.prog 16 [st (B l)] H (.ret (.tup [tksV (scanG l).1, fltV (scanG l).2.1 (scanG l).2.2])) H := by
  refine ok_fn hm Tryd.func16 c16 (by simp) fun hcl => ?_
  by_cases hs : 20000 < l.length
  · have hs' : (20000 : Int) < l.length := by omega
    have hr : scanG l = ([], 4, 20000) := by simp [scanG, hs]
    simp -implicitDefEqProofs [i16, r16, hs']
    rw [hr]
    refine Cv.le (cv_fz 4 hcl rfl rfl) ?_
    simp [tksV, fltV]
    exact le_tup (leL.cons le_nil (leL.cons (SV.le.refl _) leL.nil))
  · have hs' : ¬ (20000 : Int) < l.length := by omega
    generalize hes : evsT l = es
    have hmem : ∀ e p, Ev.flt e p ∈ es → e ≠ 0 := fun e p h => by rw [← hes] at h; exact evs_flt _ _ h
    simp -implicitDefEqProofs [i16, r16, hs']
    refine LI.cong (H' := sR H (0, 0) (toks (es.take 0)) []) (by simp [sR, rwT, toks]) ?_
    refine loop16_0 (H := H) hl (es := es) hmem (fun hf env ts L g2 g3 => ?_) (fun hf env L g3 g4 => ?_) l.length 0 0 _ _ (by omega) (by rw [← hes]; rfl) (by simp [toks]) (by omega) (by omega) rfl (fun h => by omega) (by simp) (by simp) (by simp) (by simp)
    · have hr : scanG l = ([], fltE 0 es) := by simp [scanG, hs, hes, hf]
      rw [hr]
      simp -implicitDefEqProofs [g2, g3, sR]
      refine Cv.le (cv_fz 4 hcl rfl rfl) ?_
      simp [tksV, fltV]
      exact le_tup (leL.cons le_nil (leL.cons (SV.le.refl _) leL.nil))
    · have hr : scanG l = (toks es, 0, 0) := by simp [scanG, hs, hes, hf]
      rw [hr]
      simp -implicitDefEqProofs [g3, g4, sR]
      refine cv_fz 4 hcl rfl ?_
      have e4 : (List.map (fun a => a.c.length) (toks es)).sum = (toks es).length * 4 := by
        have : (fun a : Tok => a.c.length) = fun _ => 4 := by funext a; rfl
        rw [this, sum4]
      simp [tksV, fltV, rwT, e4, und_toks, map_fz_under _ _ _ _ (und_toks _ _), tk_take]
end
end Go.Proofs.YtjbhokoihamhiaaDoor
/- T21 -/
namespace Go.Proofs.YtjbhokoihamhiaaDoor
open Go.Ab
/-- Lines and columns, counted byte by byte. -/
def plR : List UInt8 → Int × Int → Int × Int
  | [], s => s
  | c :: r, s => plR r (if c = 10 then (s.1 + 1, 1) else (s.1, s.2 + 1))
def placeG (l : List UInt8) (p : Int) : Int × Int × Int :=
  if 20000 < l.length then (0, 0, 4) else if p < 0 ∨ (l.length : Int) < p then (0, 0, 2) else ((plR (l.take p.toNat) (1, 1)).1, (plR (l.take p.toNat) (1, 1)).2, 0)
def plV (x : Int × Int × Int) : SV := .tup [i64 x.1, i64 x.2.1, i64 x.2.2]
theorem plR_app : ∀ (a b : List UInt8) (s : Int × Int), plR (a ++ b) s = plR b (plR a s)
  | [], b, s => rfl
  | c :: r, b, s => by simp only [List.cons_append, plR]; exact plR_app r b _
theorem plR_rng : ∀ (a : List UInt8) (s : Int × Int), 1 ≤ s.1 → 1 ≤ s.2 → 1 ≤ (plR a s).1 ∧ (plR a s).1 ≤ s.1 + a.length ∧ 1 ≤ (plR a s).2 ∧ (plR a s).2 ≤ s.2 + a.length
  | [], s, h1, h2 => by simp [plR]; omega
  | c :: r, s, h1, h2 => by
    simp only [plR, List.length_cons]
    split
    · have := plR_rng r (s.1 + 1, 1) (by simp; omega) (by simp)
      simp only at this; omega
    · have := plR_rng r (s.1, s.2 + 1) h1 (by simp; omega)
      simp only at this; omega
theorem plR_lib (m : List UInt8) : ∀ k, k ≤ m.length → plR (m.take k) (1, 1) = (1 + ((m.take k).count 10 : Int), (k : Int) - Lib.lastIdx (B m) 10 k)
  | 0, _ => by simp [plR, Lib.lastIdx]
  | k + 1, h => by
    have hlt : k < m.length := by omega
    have ih := plR_lib m k (by omega)
    have hb : (B m).data[k]! = m[k] := by simp [B, hlt]
    have f1 : ((m[k].toNat : Int) = 10) ↔ m[k] = 10 := u8i m[k] 10
    rw [List.take_succ_eq_append_getElem hlt, plR_app, ih]
    simp only [plR, Lib.lastIdx, hb, List.count_append]
    by_cases hc : m[k] = 10
    · rw [if_pos hc, if_pos (f1.2 hc), hc]
      simp; omega
    · rw [if_neg hc, if_neg (fun h => hc (f1.1 h))]
      have : List.count 10 [m[k]] = 0 := by simp [hc]
      rw [this]
      simp; omega
section
variable {H : List AO} {l : List UInt8}
theorem loop21 (hl : l.length ≤ 20000) {p : Nat} (hp : p ≤ l.length) {N : Nat} {K : XE → Env → List AO → Prop}
    (hexit : ∀ env, env.get 4 = i64 (plR (l.take p) (1, 1)).1 → env.get 5 = i64 (plR (l.take p) (1, 1)).2 → K (.exit 0) env H) :
    ∀ (k i : Nat) (env : Env), i + k = p → env.get 0 = st (B l) → env.get 1 = i64 p → env.get 4 = i64 (plR (l.take i) (1, 1)).1 → env.get 5 = i64 (plR (l.take i) (1, 1)).2 → env.get 7 = i64 i → LI Tryd.prog N drawB l21_0 env H K := by
  intro k
  induction k with
  | zero =>
    intro i env hi h0 h1 h4 h5 h7
    refine li_go hm l21_0.eq_1 ?_
    have e : i = p := by omega
    subst e
    simp -implicitDefEqProofs [h0, h1, h4, h5, h7]
    exact hexit _ (by simp [h4]) (by simp [h5])
  | succ k ih =>
    intro i env hi h0 h1 h4 h5 h7
    refine li_go hm l21_0.eq_1 ?_
    have hip : i < p := by omega
    have hlt : i < l.length := by omega
    have f1 : ((l[i].toNat : Int) = 10) ↔ l[i] = 10 := u8i l[i] 10
    have hr := plR_rng (l.take i) (1, 1) (by simp) (by simp)
    simp only [List.length_take] at hr
    have e2 : plR (l.take (i + 1)) (1, 1) = plR [l[i]] (plR (l.take i) (1, 1)) := by rw [List.take_succ_eq_append_getElem hlt, plR_app]
    generalize plR (l.take i) (1, 1) = s at h4 h5 hr e2
    have w1 : IntKind.i64.wrap (s.1 + 1) = s.1 + 1 := wrap_id (by omega) (by omega)
    have w2 : IntKind.i64.wrap (s.2 + 1) = s.2 + 1 := wrap_id (by omega) (by omega)
    by_cases hc : l[i] = 10
    · have e3 : plR (l.take (i + 1)) (1, 1) = (s.1 + 1, 1) := by rw [e2]; simp [plR, hc]
      simp -implicitDefEqProofs [h0, h1, h4, h5, h7, hip, hlt, hc, w1, w2]
      exact ih (i + 1) _ (by omega) (by simp [h0]) (by simp [h1]) (by simp [e3]) (by simp [e3]) (by simp [wrap_suc (show i < 9223372036854775807 by omega)])
    · have hc' : ¬ ((l[i].toNat : Int) = 10) := fun h => hc (f1.1 h)
      have e3 : plR (l.take (i + 1)) (1, 1) = (s.1, s.2 + 1) := by rw [e2]; simp [plR, hc]
      simp -implicitDefEqProofs [h0, h1, h4, h5, h7, hip, hlt, hc', w1, w2]
      exact ih (i + 1) _ (by omega) (by simp [h0]) (by simp [h1]) (by simp [h4, e3]) (by simp [e3]) (by simp [wrap_suc (show i < 9223372036854775807 by omega)])
theorem ok21 (hl : l.length < 4611686018427387904) (p : Int) : Ok Tryd.prog 21 [st (B l), i64 p] H (.ret (plV (placeG l p))) H := by
  refine ok_fn hm Tryd.func21 c21 (by simp) fun hcl => ?_
  by_cases hs : 20000 < l.length
  · have hs' : (20000 : Int) < l.length := by omega
    have hr : placeG l p = (0, 0, 4) := by simp [placeG, hs]
    rw [hr]
    simp -implicitDefEqProofs [i21, r21, hs', plV]
    exact cv_id
  · have hs' : ¬ (20000 : Int) < l.length := by omega
    by_cases hb : p < 0 ∨ (l.length : Int) < p
    · have hr : placeG l p = (0, 0, 2) := by unfold placeG; rw [if_neg hs, if_pos hb]
      rw [hr]
      simp -implicitDefEqProofs [i21, r21, hs', plV, hb]
      exact cv_id
    · obtain ⟨q, rfl⟩ : ∃ q : Nat, p = q := ⟨p.toNat, by omega⟩
      have hr : placeG l q = ((plR (l.take q) (1, 1)).1, (plR (l.take q) (1, 1)).2, 0) := by unfold placeG; rw [if_neg hs, if_neg hb]; simp
      have hb2 : ¬ l.length < q := by omega
      rw [hr]
      simp -implicitDefEqProofs [i21, r21, hs', plV, hb2]
      refine loop21 (l := l) (by omega) (p := q) (by omega) (fun env h4 h5 => ?_) q 0 _ (by omega) (by simp) (by simp) (by simp [plR]) (by simp [plR]) (by simp)
      simp -implicitDefEqProofs [h4, h5]
      exact cv_id
theorem ok20 (hl : l.length < 4611686018427387904) (p : Int) : Ok Tryd.prog 20 [st (B l), i64 p] H (.ret (plV (placeG l p))) H := by
  refine ok_fn hm Tryd.func20 c20 (by simp) fun hcl => ?_
  by_cases hs : 20000 < l.length
  · have hs' : (20000 : Int) < l.length := by omega
    have hr : placeG l p = (0, 0, 4) := by simp [placeG, hs]
    rw [hr]
    simp -implicitDefEqProofs [i20, r20, hs', plV]
    exact cv_id
  · have hs' : ¬ (20000 : Int) < l.length := by omega
    by_cases hb : p < 0 ∨ (l.length : Int) < p
    · have hr : placeG l p = (0, 0, 2) := by unfold placeG; rw [if_neg hs, if_pos hb]
      rw [hr]
      simp -implicitDefEqProofs [i20, r20, hs', plV, hb]
      exact cv_id
    · obtain ⟨q, rfl⟩ : ∃ q : Nat, p = q := ⟨p.toNat, by omega⟩
      have hr : placeG l q = ((plR (l.take q) (1, 1)).1, (plR (l.take q) (1, 1)).2, 0) := by unfold placeG; rw [if_neg hs, if_neg hb]; simp
      have hb2 : ¬ l.length < q := by omega
      have hq : q ≤ l.length := by omega
      have hlen : (l.take q).length = q := by simp; omega
      have hL := plR_lib (l.take q) q (by omega)
      rw [List.take_of_length_le (by omega)] at hL
      have hrg := plR_rng (l.take q) (1, 1) (by simp) (by simp)
      rw [hr]
      simp -implicitDefEqProofs [i20, r20, hs', plV, hb2, hq]
      have h36 := ok36 (H := H) (l.take q) 10
      have h37 : Ok Tryd.prog 37 [st (B (l.take q)), u8 10] H (.ret (i64 (Lib.lastIndexByte (B (l.take q)) 10))) H := ok37 (H := H) (l.take q) 10 (by omega)
      refine call_go h36 ?_
      simp -implicitDefEqProofs
      refine call_go h37 ?_
      have el : Lib.lastIndexByte (B (l.take q)) 10 = Lib.lastIdx (B (l.take q)) 10 q := by unfold Lib.lastIndexByte; rw [B_size, hlen]
      rw [hL] at hrg ⊢
      rw [el]
      simp only at hrg
      simp -implicitDefEqProofs [Lib.countByte]
      rw [wrap_id (by omega) (by omega), wrap_id (by omega) (by omega)]
      exact cv_id
end
end Go.Proofs.YtjbhokoihamhiaaDoor
/- T22 -/
namespace Go.Proofs.YtjbhokoihamhiaaDoor
open Go.Ab
/-- The error of a token. -/
def chkT (k : Int) (tx : List UInt8) (n : Int) : Int :=
  if tx = [] ∨ k < 1 ∨ 3 < k ∨ cAt tx 0 = 1 ∨ tx.getD 0 0 = 35 then 3 else
    match stepT tx 0 with
    | .tok t q => if q ≠ tx.length ∨ t.k ≠ k then 3 else if t.n ≠ n then 2 else 0
    | _ => 3
theorem stepT_skip {l : List UInt8} {p q : Nat} (c1 : cAt l p ≠ 1) (c5 : l.getD p 0 ≠ 35) : stepT l p ≠ .skip q := by
  intro hst
  unfold stepT at hst
  rw [if_neg c1] at hst
  have key : ∀ k q', mkStp l p k q' ≠ .skip q := by intro k q' h; unfold mkStp at h; split at h <;> cases h
  split at hst
  · exact key _ _ hst
  · split at hst
    · exact key _ _ hst
    · split at hst
      · exact key _ _ hst
      · first
        | exact key _ _ hst
        | (rw [if_neg c5] at hst; exact key _ _ hst)
theorem stepT_flt {l : List UInt8} {p : Nat} {e : Int} (he : stepT l p = .flt e) : e ≠ 0 := by
  have key : ∀ k q, mkStp l p k q = .flt e → e ≠ 0 := by
    intro k q hm
    unfold mkStp at hm
    split at hm
    · rename_i hne; cases hm; exact hne
    · cases hm
  unfold stepT at he
  split at he
  · cases he
  · split at he
    · exact key _ _ he
    · split at he
      · exact key _ _ he
      · split at he
        · exact key _ _ he
        · split at he
          · cases he
          · exact key _ _ he
section
variable {H : List AO} {tx : List UInt8}
theorem ok12 (hl : tx.length < 4611686018427387904) (k n : Int) (a : SV) (ha : a.isCell = true) (hu : a.under H.length = true) : Ok Tryd.prog 12 [.agg [i64 k, st (B tx), i64 n, a]] H (.ret (i64 (chkT k tx n))) H := by
  refine ok_fn hm Tryd.func12 c12 (by simp) fun hcl => ?_
  by_cases h1 : tx = []
  · have hr : chkT k tx n = 3 := by unfold chkT; rw [if_pos (.inl h1)]
    rw [hr]
    simp -implicitDefEqProofs [i12, r12, h1, ha]
    refine callq_off _ _ _ _ ?_
    simp -implicitDefEqProofs
    exact cv_fz 4 hcl rfl (by simp)
  have hpos : 0 < tx.length := List.length_pos_iff.2 h1
  have hg : tx.getD 0 0 = tx[0] := by simp [hpos]
  have hb : tx[0].toNat < 256 := tx[0].toNat_lt
  have f1 : ((tx[0].toNat : Int) = 35) ↔ tx[0] = 35 := u8i tx[0] 35
  obtain ⟨_, _, q1, _⟩ := cls_at hb
  rw [← cAt_get hpos] at q1
  by_cases h2 : k < 1
  · have hr : chkT k tx n = 3 := by unfold chkT; rw [if_pos (.inr (.inl h2))]
    rw [hr]
    simp -implicitDefEqProofs [i12, r12, h1, ha, h2]
    refine callq_off _ _ _ _ ?_
    simp -implicitDefEqProofs
    exact cv_fz 4 hcl rfl (by simp)
  by_cases h3 : 3 < k
  · have hr : chkT k tx n = 3 := by unfold chkT; rw [if_pos (.inr (.inr (.inl h3)))]
    rw [hr]
    simp -implicitDefEqProofs [i12, r12, h1, ha, h2, h3]
    refine callq_off _ _ _ _ ?_
    simp -implicitDefEqProofs
    exact cv_fz 4 hcl rfl (by simp)
  simp -implicitDefEqProofs [i12, r12, h1, ha, h2, h3, hpos]
  refine callq_st (r := bl (whtB tx[0].toNat)) (fun _ => by rw [st_u8]; exact ok31 _ hb) ?_
  by_cases h4 : cAt tx 0 = 1
  · have hr : chkT k tx n = 3 := by unfold chkT; rw [if_pos (.inr (.inr (.inr (.inl h4))))]
    rw [hr]
    simp -implicitDefEqProofs [q1.1 h4]
    exact cv_fz 4 hcl rfl (by simp)
  have hW : whtB tx[0].toNat = false := by rw [← Bool.not_eq_true]; exact fun h => h4 (q1.2 h)
  by_cases h5 : tx[0] = 35
  · have hr : chkT k tx n = 3 := by unfold chkT; rw [if_pos (.inr (.inr (.inr (.inr (by rw [hg]; exact h5)))))]
    rw [hr]
    simp -implicitDefEqProofs [hW, hpos, h5]
    exact cv_fz 4 hcl rfl (by simp)
  have h5' : ¬ ((tx[0].toNat : Int) = 35) := fun h => h5 (f1.1 h)
  have hr : chkT k tx n = match stepT tx 0 with
    | .tok t q => if q ≠ tx.length ∨ t.k ≠ k then 3 else if t.n ≠ n then 2 else 0
    | _ => 3 := by unfold chkT; rw [if_neg (by rw [hg]; rintro (h | h | h | h | h) <;> contradiction)]
  simp -implicitDefEqProofs [hW, hpos, h5']
  refine call_go (ok32 hl hpos h4 (by rw [hg]; exact h5) (fun h => absurd h.2.1 (by decide))) ?_
  cases hst : stepT tx 0 with
  | skip q => exact (stepT_skip h4 (by rw [hg]; exact h5) hst).elim
  | flt e =>
    have hnx : nxV tx 0 = .tup [zT, i64 0, fltV e 0] := by unfold nxV; rw [hst]; rfl
    rw [hst] at hr
    have he := stepT_flt hst
    rw [hnx, hr]
    simp -implicitDefEqProofs [zT, fltV, he]
    exact cv_fz 4 hcl rfl (by simp)
  | tok t q =>
    have hnx : nxV tx 0 = .tup [t.v, i64 q, fltV 0 0] := by unfold nxV; rw [hst]
    rw [hst] at hr
    rw [hnx, hr]
    by_cases hq : q = tx.length
    · by_cases hk : t.k = k
      · simp -implicitDefEqProofs [Tok.v, Tok.c, fltV, hq, hk]
        split
        · exact cv_fz 4 hcl rfl (by simp)
        · exact cv_fz 4 hcl rfl (by simp)
      · simp -implicitDefEqProofs [Tok.v, Tok.c, fltV, hq, hk]
        exact cv_fz 4 hcl rfl (by simp)
    · have hq' : ¬ ((q : Int) = tx.length) := by omega
      simp -implicitDefEqProofs [Tok.v, Tok.c, fltV, hq, hq']
      exact cv_fz 4 hcl rfl (by simp)
end
end Go.Proofs.YtjbhokoihamhiaaDoor
/- T23 -/
namespace Go.Proofs.YtjbhokoihamhiaaDoor
open Go.Ab
def zC : List SV := [i64 0, st (B []), i64 0, i64 0]
def tC (k : Int) (tx : List UInt8) (n : Int) (a : SV) : List SV := [i64 k, st (B tx), i64 n, a]
def sH25 (A : List AO) (tc fc : List SV) (tx : List UInt8) (r : Bool) (lo : AO) (L : List AO) : List AO :=
  A ++ ⟨tc, 25, 0, true⟩ :: ⟨fc, 25, 0, true⟩ :: ⟨[st (B tx)], 9, 0, true⟩ :: ⟨[bl r], 4, 0, true⟩ :: lo :: L
def e25 (A : List AO) (c : SV) : Env := [(1, .ptr (.own (A.length + 1) 0 0 0 0) 0), (2, .ptr (.own A.length 0 0 0 0) 0), (3, .ptr (.own (A.length + 2) 0 0 0 0) 0), (4, .ptr (.own (A.length + 3) 0 0 0 0) 0), (27, c)]
section
variable {A : List AO} {tx : List UInt8}
theorem round25 {c a : SV} {k n : Int} {t : Tok} (L : List AO) :
    YlP Tryd.prog (A.length + 4) [t.v, .val .nilIface] (sH25 A (tC k tx n a) zC tx false (lpo Tryd.prog 46 drawB 1 [28, 29] ya25_0 yb25_0 ((e25 A c).vals 46) .ready) L) fun o H' =>
      o = .ret (bl false) ∧ ∃ cs L, H' = sH25 A (tC k tx n a) t.c tx (decide (t.tx = tx) && decide (t.k = k)) (lpo Tryd.prog 46 drawB 1 [28, 29] ya25_0 yb25_0 cs .ret) L := by
  refine yl_go (N := 46) (env := e25 A c) hm ya25_0.eq_1 yb25_0.eq_1 (by simp [sH25]; rfl) (by simp [e25]) (by decide) rfl fun hcl => ?_
  generalize hlo : lpo Tryd.prog 46 drawB 1 [28, 29] ya25_0 yb25_0 ((e25 A c).vals 46) .ready = lo
  simp -implicitDefEqProofs [e25, sH25, tC, zC, Tok.v, Tok.c]
  refine ⟨_, hlo.symm, _, by simp; rfl, .ret, false, _, ⟨rfl, rfl⟩, ⟨rfl, (e25 A c).vals 46, L ++ [⟨t.c, 25, 0, true⟩], rfl⟩, cv_idq ?_⟩
  simp [set_app, e25, Tok.c]
theorem round25e {c a : SV} {k n e : Int} {p : Nat} (L : List AO) :
    YlP Tryd.prog (A.length + 4) [zT, .ifc 62 (fltV e p)] (sH25 A (tC k tx n a) zC tx false (lpo Tryd.prog 46 drawB 1 [28, 29] ya25_0 yb25_0 ((e25 A c).vals 46) .ready) L) fun o H' =>
      o = .ret (bl false) ∧ ∃ cs L, H' = sH25 A (tC k tx n a) zC tx false (lpo Tryd.prog 46 drawB 1 [28, 29] ya25_0 yb25_0 cs .ret) L := by
  refine yl_go (N := 46) (env := e25 A c) hm ya25_0.eq_1 yb25_0.eq_1 (by simp [sH25]; rfl) (by simp [e25]) (by decide) rfl fun hcl => ?_
  generalize hlo : lpo Tryd.prog 46 drawB 1 [28, 29] ya25_0 yb25_0 ((e25 A c).vals 46) .ready = lo
  simp -implicitDefEqProofs [e25, sH25, tC, zC, zT]
  refine ⟨_, hlo.symm, _, by simp; rfl, .ret, false, _, ⟨rfl, rfl⟩, ⟨rfl, (e25 A c).vals 46, L ++ [⟨zC, 25, 0, true⟩], rfl⟩, cv_idq ?_⟩
  simp [set_app, e25, zC]
/-- Is a text one token of a kind, and which token was met. -/
def sglT (k : Int) (tx : List UInt8) : Bool × List SV :=
  if tx = [] ∨ 40 < tx.length ∨ cAt tx 0 = 1 ∨ tx.getD 0 0 = 35 then (false, zC) else
    match stepT tx 0 with
    | .tok t _ => (decide (t.tx = tx) && decide (t.k = k), t.c)
    | _ => (false, zC)
end
end Go.Proofs.YtjbhokoihamhiaaDoor
/- T24 -/
namespace Go.Proofs.YtjbhokoihamhiaaDoor
open Go.Ab
abbrev o25 (c : List SV) : AO := ⟨c, 25, 0, true⟩
theorem closed_last {A : List AO} {x o o' : AO} (h : closed (A ++ [x, o])) (hu : ∀ s ∈ o'.cells, s.under (A.length + 2) = true) : closed (A ++ [x, o']) := by
  intro i p hp s hs
  have e : (A ++ [x, o']).length = (A ++ [x, o]).length := by simp
  rw [e]
  by_cases hi : i = A.length + 1
  · subst hi
    have : p = o' := by simpa using hp.symm
    subst this
    simpa using hu s hs
  · have : (A ++ [x, o])[i]? = some p := by
      rcases Nat.lt_or_ge i (A.length + 1) with h1 | h1
      · rw [show A ++ [x, o'] = (A ++ [x]) ++ [o'] by simp, List.getElem?_append_left (by simp; omega)] at hp
        rw [show A ++ [x, o] = (A ++ [x]) ++ [o] by simp, List.getElem?_append_left (by simp; omega)]
        exact hp
      · have := getElem?_lt hp
        simp at this; omega
    exact h i p this s hs
section
variable {A : List AO} {tx : List UInt8}
theorem ok25 (hl : tx.length < 4611686018427387904) (k n : Int) (a : SV) :
    Ok Tryd.prog 25 [st (B tx), .ptr (.own (A.length + 1) 0 0 0 0) 0, .ptr (.own A.length 0 0 0 0) 0] (A ++ [o25 (tC k tx n a), o25 zC]) (.ret (bl (sglT k tx).1)) (A ++ [o25 (tC k tx n a), o25 (sglT k tx).2]) := by
  refine ok_fn hm Tryd.func25 c25 (by simp) fun hcl => ?_
  have fin : ∀ {b : Bool} {fc : List SV} {L : List AO}, sglT k tx = (b, fc) → (∀ s ∈ fc, s.under (A.length + 2) = true) →
      Cv (A ++ [o25 (tC k tx n a), o25 zC]).length (bl b) (A ++ o25 (tC k tx n a) :: o25 fc :: L) (bl (sglT k tx).1) (A ++ [o25 (tC k tx n a), o25 (sglT k tx).2]) := by
    intro b fc L h hu
    rw [h]
    have := cv_fz (H := A ++ [o25 (tC k tx n a), o25 fc]) (L := L) (n0 := (A ++ [o25 (tC k tx n a), o25 zC]).length) (r1 := bl b) (r := bl b) 4 (closed_last hcl hu) (by simp) (by simp)
    simpa using this
  have hz : ∀ s ∈ zC, s.under (A.length + 2) = true := by intro s hs; simp [zC] at hs; rcases hs with rfl | rfl | rfl | rfl <;> rfl
  by_cases h1 : tx = []
  · have hr : sglT k tx = (false, zC) := by unfold sglT; rw [if_pos (.inl h1)]
    have f := fun L => fin (L := L) hr hz
    generalize sglT k tx = g at f hr
    subst h1
    simp -implicitDefEqProofs [i25, r25]
    refine callq_off _ _ _ _ ?_
    simp -implicitDefEqProofs
    exact (by simpa using f _)
  have hpos : 0 < tx.length := List.length_pos_iff.2 h1
  have hg : tx.getD 0 0 = tx[0] := by simp [hpos]
  have f1 : ((tx[0].toNat : Int) = 35) ↔ tx[0] = 35 := u8i tx[0] 35
  by_cases h2 : 40 < tx.length
  · have hr : sglT k tx = (false, zC) := by unfold sglT; rw [if_pos (.inr (.inl h2))]
    have f := fun L => fin (L := L) hr hz
    have h2' : (40 : Int) < tx.length := by omega
    simp -implicitDefEqProofs [i25, r25, h1, h2']
    refine callq_off _ _ _ _ ?_
    simp -implicitDefEqProofs
    exact (by simpa using f _)
  have h2' : ¬ (40 : Int) < tx.length := by omega
  simp -implicitDefEqProofs [i25, r25, h1, h2', hpos]
  refine callq_st (r := i64 (cls tx[0].toNat)) (fun _ => by rw [st_u8]; exact ok26 _) ?_
  have hca : cls tx[0].toNat = cAt tx 0 := (cAt_get hpos).symm
  by_cases h4 : cAt tx 0 = 1
  · have hr : sglT k tx = (false, zC) := by unfold sglT; rw [if_pos (.inr (.inr (.inl h4)))]
    have f := fun L => fin (L := L) hr hz
    simp -implicitDefEqProofs [hca, h4]
    exact (by simpa using f _)
  by_cases h5 : tx[0] = 35
  · have hr : sglT k tx = (false, zC) := by unfold sglT; rw [if_pos (.inr (.inr (.inr (by rw [hg]; exact h5))))]
    have f := fun L => fin (L := L) hr hz
    simp -implicitDefEqProofs [hca, h4, hpos, h5]
    exact (by simpa using f _)
  have h5' : ¬ ((tx[0].toNat : Int) = 35) := fun h => h5 (f1.1 h)
  have hr : sglT k tx = match stepT tx 0 with
    | .tok t _ => (decide (t.tx = tx) && decide (t.k = k), t.c)
    | _ => (false, zC) := by unfold sglT; rw [if_neg (by rw [hg]; rintro (h | h | h | h) <;> first | contradiction | omega)] <;> cases stepT tx 0 <;> rfl
  simp -implicitDefEqProofs [hca, h4, hpos, h5']
  refine call_go ok27 ?_
  simp -implicitDefEqProofs [genV]
  -- the first event
  obtain ⟨m, hm1⟩ : ∃ m, tx.length = m + 1 := ⟨tx.length - 1, by omega⟩
  have hes : evsT tx = match stepT tx 0 with
    | .skip q => evs tx m q
    | .tok t q => .tok t :: evs tx m q
    | .flt e => [.flt e 0] := by unfold evsT; rw [hm1]; simp only [evs]; rw [if_pos (by omega)] <;> cases stepT tx 0 <;> rfl
  refine rg_go (Pt := fun o H' => (∃ v, o = .ret v) ∧ ∃ cs L, H' = sH25 A (tC k tx n a) (sglT k tx).2 tx (sglT k tx).1 (lpo Tryd.prog 46 drawB 1 [28, 29] ya25_0 yb25_0 cs .ret) L) ?_ ?_
  · refine OkP.cast (args' := [.yl (A.length + 4), .ptr (.slc [st (B tx)] 0) 0]) (H' := sH25 A (tC k tx n a) zC tx false (lpo Tryd.prog 46 drawB 1 [28, 29] ya25_0 yb25_0 ((e25 A (.fn (.func 38) [] [.ptr (.slc [st (B tx)] 0) 0])).vals 46) .ready) []) (by simp) (by simp [sH25, e25]) ?_
    refine (ok38 (J := fun i H' => i = 0 ∧ ∃ L, H' = sH25 A (tC k tx n a) zC tx false (lpo Tryd.prog 46 drawB 1 [28, 29] ya25_0 yb25_0 ((e25 A (.fn (.func 38) [] [.ptr (.slc [st (B tx)] 0) 0])).vals 46) .ready) L)
      (Q := fun H' => ∃ cs L, H' = sH25 A (tC k tx n a) (sglT k tx).2 tx (sglT k tx).1 (lpo Tryd.prog 46 drawB 1 [28, 29] ya25_0 yb25_0 cs .ret) L) (y := A.length + 4) (es := evsT tx) rfl hl ?_ ?_ ?_ ⟨rfl, [], rfl⟩).mono ?_
    · rintro i H' L' ⟨h0, L, rfl⟩
      exact ⟨h0, L ++ L', by simp [sH25]⟩
    · rintro i t H' hi ⟨rfl, L, rfl⟩
      have hst : ∃ q, stepT tx 0 = .tok t q := by
        rw [hes] at hi
        cases hs : stepT tx 0 with
        | skip q => exact (stepT_skip h4 (by rw [hg]; exact h5) hs).elim
        | tok t' q => rw [hs] at hi; simp at hi; exact ⟨q, by rw [hi]⟩
        | flt e => rw [hs] at hi; simp at hi
      obtain ⟨q, hst⟩ := hst
      rw [hst] at hr
      refine (round25 (c := .fn (.func 38) [] [.ptr (.slc [st (B tx)] 0) 0]) (a := a) (k := k) (n := n) (t := t) L).mono ?_
      rintro o H' ⟨rfl, cs, L', rfl⟩
      exact .inr ⟨rfl, cs, L', by rw [hr]⟩
    · rintro i e p H' hi ⟨rfl, L, rfl⟩
      have hst : stepT tx 0 = .flt e := by
        rw [hes] at hi
        cases hs : stepT tx 0 with
        | skip q => exact (stepT_skip h4 (by rw [hg]; exact h5) hs).elim
        | tok t' q => rw [hs] at hi; simp at hi
        | flt e' => rw [hs] at hi; simp at hi; rw [hi.1]
      rw [hst] at hr
      refine (round25e (c := .fn (.func 38) [] [.ptr (.slc [st (B tx)] 0) 0]) (a := a) (k := k) (n := n) (e := e) (p := p) L).mono ?_
      rintro o H' ⟨rfl, cs, L', rfl⟩
      exact ⟨⟨_, rfl⟩, cs, L', by rw [hr]⟩
    · rintro o H' ⟨hv, (⟨h0, _⟩ | hq)⟩
      · exfalso
        have := congrArg List.length hes
        cases hs : stepT tx 0 with
        | skip q => exact stepT_skip h4 (by rw [hg]; exact h5) hs
        | tok t' q => rw [hs, h0] at this; simp at this
        | flt e' => rw [hs, h0] at this; simp at this
      · exact ⟨hv, hq⟩
  · rintro out H' ⟨⟨v, rfl⟩, cs, L, rfl⟩
    refine ⟨.ret, _, by simp [sH25]; rfl, ?_⟩
    simp -implicitDefEqProofs [sH25]
    have hsu : ∀ s ∈ (sglT k tx).2, s.under (A.length + 2) = true := by
      rw [hr]
      cases stepT tx 0 with
      | tok t q => intro s hs; simp [Tok.c] at hs; rcases hs with rfl | rfl | rfl | rfl <;> rfl
      | skip q => exact hz
      | flt e => exact hz
    have f := fun L => fin (L := L) (b := (sglT k tx).1) (fc := (sglT k tx).2) rfl hsu
    exact (by simpa using f _)
end
end Go.Proofs.YtjbhokoihamhiaaDoor
/- T25 -/
namespace Go.Proofs.YtjbhokoihamhiaaDoor
open Go.Ab
section
variable {A H : List AO} {tx : List UInt8}
theorem ok28 (hl : tx.length < 4611686018427387904) (k n e : Int) (a : SV) :
    Ok Tryd.prog 28 [st (B tx), .fn (.func 25) [] [.ptr (.own (A.length + 1) 0 0 0 0) 0, .ptr (.own A.length 0 0 0 0) 0], i64 e] (A ++ [o25 (tC k tx n a), o25 zC]) (.ret (i64 (if (sglT k tx).1 = true then 0 else e))) (A ++ [o25 (tC k tx n a), o25 (sglT k tx).2]) := by
  refine ok_fn hm Tryd.func28 c28 (by simp) fun hcl => ?_
  simp -implicitDefEqProofs [i28, r28]
  refine call_go (ok25 (A := A) hl k n a) ?_
  by_cases hb : (sglT k tx).1 = true
  · simp -implicitDefEqProofs [hb]
    exact cv_id
  · rw [Bool.not_eq_true] at hb
    simp -implicitDefEqProofs [hb]
    exact cv_id
theorem ok30 {fc : List SV} {o : AO} (m : Int) (n : Int) (hf : fc.getD 2 .any = i64 m) (hlen : fc.length = 4) : Ok Tryd.prog 30 [i64 n, .ptr (.own (A.length + 1) 0 0 0 0) 0] (A ++ [o, o25 fc]) (.ret (bl (decide (n = m)))) (A ++ [o, o25 fc]) := by
  refine ok_fn hm Tryd.func30 c30 (by simp) fun hcl => ?_
  match fc, hlen with
  | [x0, x1, x2, x3], _ =>
    have : x2 = i64 m := by simpa using hf
    subst this
    simp -implicitDefEqProofs [i30, r30]
    exact cv_id
theorem ok29 {fc : List SV} {o : AO} (m n e : Int) (hf : fc.getD 2 .any = i64 m) (hlen : fc.length = 4) :
    Ok Tryd.prog 29 [i64 n, .fn (.func 30) [] [.ptr (.own (A.length + 1) 0 0 0 0) 0], i64 e] (A ++ [o, o25 fc]) (.ret (i64 (if n = m then 0 else e))) (A ++ [o, o25 fc]) := by
  refine ok_fn hm Tryd.func29 c29 (by simp) fun hcl => ?_
  simp -implicitDefEqProofs [i29, r29]
  refine call_go (ok30 (A := A) m n hf hlen) ?_
  by_cases hb : n = m
  · simp -implicitDefEqProofs [hb]
    exact cv_id
  · simp -implicitDefEqProofs [hb]
    exact cv_id
end
end Go.Proofs.YtjbhokoihamhiaaDoor
/- T26 -/
namespace Go.Proofs.YtjbhokoihamhiaaDoor
open Go.Ab
theorem mkStp_tx {l : List UInt8} {p q q' : Nat} {k : Int} {t : Tok} (h : mkStp l p k q = .tok t q') : t.tx = cut l p q ∧ (whE l k (cut l p q) p).1 = 0 := by
  unfold mkStp at h
  split at h
  · cases h
  · rename_i hn; cases h; exact ⟨rfl, by simpa using hn⟩
/-- What is known of a token. -/
theorem tok_facts {l : List UInt8} {p q : Nat} {t : Tok} (hp : p < l.length) (h : stepT l p = .tok t q) : t.tx = cut l p q ∧ 1 ≤ t.k ∧ t.k ≤ 3 ∧ q - p ≤ 40 := by
  have hq := mkq h hp
  unfold stepT at h
  split at h
  · cases h
  · split at h
    · have hk := mkStp_tok h
      have hx := mkStp_tx h
      obtain ⟨rfl, hk, _⟩ := hk
      refine ⟨hx.1, by omega, by omega, ?_⟩
      have hlen := cut_len (l := l) (Nat.le_of_lt hq.1) hq.2
      rcases Nat.lt_or_ge 40 (runE l [2, 3] p - p) with h40 | h40
      · have h2 := hx.2
        unfold whE at h2
        rw [hlen] at h2
        split at h2
        · cases h2
        · rw [if_pos ⟨rfl, h40⟩] at h2; cases h2
      · exact h40
    · split at h
      · have hk := mkStp_tok h
        have hx := mkStp_tx h
        obtain ⟨rfl, hk, _⟩ := hk
        refine ⟨hx.1, by omega, by omega, ?_⟩
        have hlen := cut_len (l := l) (Nat.le_of_lt hq.1) hq.2
        rcases Nat.lt_or_ge 10 (runE l [3] p - p) with h10 | h10
        · exfalso
          have h2 := hx.2
          unfold whE at h2
          split at h2
          · cases h2
          · rw [if_neg (fun h => absurd h.1 (by decide)), if_neg (by decide)] at h2
            split at h2
            · cases h2
            · rename_i hz
              have hv := numW_long (tx := cut l p (runE l [3] p)) run_digits (by omega) (fun h => hz ⟨by omega, h⟩)
              rw [(numR_val (tx := cut l p (runE l [3] p)) (m := 0) run_digits (by omega) (by omega)).2 hv] at h2
              cases h2
        · omega
      · split at h
        · have hk := mkStp_tok h
          have hx := mkStp_tx h
          obtain ⟨rfl, hk, _⟩ := hk
          refine ⟨hx.1, by omega, by omega, ?_⟩
          unfold signE
          split
          · omega
          · split <;> omega
        · split at h
          · cases h
          · have hk := (mkStp_tok h).1
            omega
theorem chk_eq {k n m : Int} {tx : List UInt8} (hm : (sglT k tx).2.getD 2 .any = i64 m) : (if (sglT k tx).1 = true then (if n = m then 0 else 2) else 3) = chkT k tx n := by
  have e3 : (sglT k tx).1 = false → chkT k tx n = 3 → (if (sglT k tx).1 = true then (if n = m then 0 else 2) else 3) = chkT k tx n := fun a b => by rw [a, b]; simp
  by_cases h1 : tx = []
  · exact e3 (by unfold sglT; rw [if_pos (.inl h1)]) (by unfold chkT; rw [if_pos (.inl h1)])
  have hpos : 0 < tx.length := List.length_pos_iff.2 h1
  by_cases h4 : cAt tx 0 = 1
  · exact e3 (by unfold sglT; rw [if_pos (.inr (.inr (.inl h4)))]) (by unfold chkT; rw [if_pos (.inr (.inr (.inr (.inl h4))))])
  by_cases h5 : tx.getD 0 0 = 35
  · exact e3 (by unfold sglT; rw [if_pos (.inr (.inr (.inr h5)))]) (by unfold chkT; rw [if_pos (.inr (.inr (.inr (.inr h5))))])
  cases hst : stepT tx 0 with
  | skip q => exact (stepT_skip h4 h5 hst).elim
  | flt e => exact e3 (by unfold sglT; rw [hst]; split <;> rfl) (by unfold chkT; rw [hst]; split <;> rfl)
  | tok t q =>
    obtain ⟨g1, g2, g3, g4⟩ := tok_facts hpos hst
    have hq := mkq hst hpos
    have hcut : cut tx 0 q = tx.take q := by simp [cut]
    have hx : t.tx = tx ↔ q = tx.length := by
      rw [g1, hcut]
      constructor
      · intro h; have := congrArg List.length h; simp at this; omega
      · intro h; rw [h, List.take_length]
    by_cases hk : k < 1 ∨ 3 < k
    · refine e3 ?_ (by unfold chkT; rw [if_pos (by rcases hk with h | h; exact .inr (.inl h); exact .inr (.inr (.inl h)))])
      unfold sglT; rw [hst]; split
      · rfl
      · have : ¬ t.k = k := by omega
        simp [this]
    · have hc : chkT k tx n = if q ≠ tx.length ∨ t.k ≠ k then 3 else if t.n ≠ n then 2 else 0 := by
        unfold chkT; rw [if_neg (by rintro (h | h | h | h | h) <;> first | contradiction | omega), hst]
      by_cases h40 : 40 < tx.length
      · exact e3 (by unfold sglT; rw [if_pos (.inr (.inl h40))]) (by rw [hc, if_pos (.inl (by omega))])
      · have hs : sglT k tx = (decide (t.tx = tx) && decide (t.k = k), t.c) := by
          unfold sglT; rw [if_neg (by rintro (h | h | h | h) <;> first | contradiction | omega), hst]
        have hmm : m = t.n := by
          rw [hs] at hm
          have : i64 t.n = i64 m := hm
          unfold i64 at this
          cases this; rfl
        by_cases a1 : q = tx.length
        · by_cases a2 : t.k = k
          · have e : (decide (t.tx = tx) && decide (t.k = k)) = true := by simp [hx.2 a1, a2]
            have hc2 : chkT k tx n = if t.n ≠ n then 2 else 0 := by rw [hc, if_neg (by rintro (h | h) <;> contradiction)]
            rw [hs, hc2, hmm]
            simp only [e, if_true]
            by_cases a3 : n = t.n
            · simp [a3]
            · rw [if_neg a3, if_pos (fun h : t.n = n => a3 h.symm)]
          · exact e3 (by rw [hs]; simp [a2]) (by rw [hc, if_pos (.inr a2)])
        · have hne : ¬ t.tx = tx := fun h => a1 (hx.1 h)
          exact e3 (by rw [hs]; simp [hne]) (by rw [hc, if_pos (.inl a1)])
end Go.Proofs.YtjbhokoihamhiaaDoor
/- T27 -/
namespace Go.Proofs.YtjbhokoihamhiaaDoor
open Go.Ab
theorem sgl_m (k : Int) (tx : List UInt8) : ∃ m, (sglT k tx).2.getD 2 .any = i64 m ∧ (sglT k tx).2.length = 4 := by
  unfold sglT
  split
  · exact ⟨0, rfl, rfl⟩
  · split
    · rename_i t _ _; exact ⟨t.n, rfl, rfl⟩
    · exact ⟨0, rfl, rfl⟩
section
variable {H : List AO} {tx : List UInt8}
theorem ok11 (hl : tx.length < 4611686018427387904) (k n : Int) (a : SV) (ha : a.isCell = true) : Ok Tryd.prog 11 [.agg [i64 k, st (B tx), i64 n, a]] H (.ret (i64 (chkT k tx n))) H := by
  refine ok_fn hm Tryd.func11 c11 (by simp) fun hcl => ?_
  obtain ⟨m, hm1, hm2⟩ := sgl_m k tx
  rw [← chk_eq (k := k) (n := n) (tx := tx) hm1]
  simp -implicitDefEqProofs [i11, r11, ha]
  refine call_go (ok28 (A := H) hl k n 3 a) ?_
  by_cases hb : (sglT k tx).1 = true
  · simp -implicitDefEqProofs [hb, tC]
    refine call_go (ok29 (A := H) m n 2 hm1 hm2) ?_
    by_cases hn : n = m
    · simp -implicitDefEqProofs [hn]
      exact cv_fz 4 hcl rfl (by simp [hb])
    · simp -implicitDefEqProofs [hn]
      exact cv_fz 4 hcl rfl (by simp [hb])
  · rw [Bool.not_eq_true] at hb
    simp -implicitDefEqProofs [hb]
    exact cv_fz 4 hcl rfl (by simp [hb])
end
end Go.Proofs.YtjbhokoihamhiaaDoor
/- T28 -/
namespace Go.Proofs.YtjbhokoihamhiaaDoor
open Go.Ab
section
variable {H : List AO}
theorem tk_drop (ts : List Tok) {i : Nat} (h : i < ts.length) : ((ts.flatMap Tok.c).drop (i * 4)).take 4 = ts[i].c := by
  induction ts generalizing i with
  | nil => simp at h
  | cons t r ih =>
    cases i with
    | zero => simp [Tok.c]
    | succ i =>
      have e : (i + 1) * 4 = t.c.length + i * 4 := by simp [Tok.c]; omega
      rw [List.flatMap_cons, e, List.drop_append]
      simp only [List.getElem_cons_succ]
      rw [List.drop_of_length_le (by omega), List.nil_append, show t.c.length + i * 4 - t.c.length = i * 4 by omega]
      exact ih (by simpa using h)
open Classical in
noncomputable def eqL (s t : List Tok) : Bool := decide (s = t)
theorem loop19 {ss ts : List Tok} (hl : ss.length = ts.length) (hs : ss.length < 4611686018427387904) {N : Nat} {K : XE → Env → List AO → Prop}
    (hret : ss ≠ ts → ∀ env, env.get 4 = bl false → K .ret env H) (hexit : ss = ts → ∀ env, K (.exit 0) env H) :
    ∀ (k i : Nat) (env : Env), i + k = ss.length → ss.take i = ts.take i → env.get 0 = tksV ss → env.get 1 = tksV ts → env.get 5 = i64 i → LI Tryd.prog N drawB l19_0 env H K := by
  intro k
  induction k with
  | zero =>
    intro i env hi he h0 h1 h5
    refine li_go hm l19_0.eq_1 ?_
    have e : i = ss.length := by omega
    subst e
    simp -implicitDefEqProofs [h0, h1, h5, tksV]
    exact hexit (by rw [List.take_length, hl, List.take_length] at he; exact he) _
  | succ k ih =>
    intro i env hi he h0 h1 h5
    refine li_go hm l19_0.eq_1 ?_
    have h3 : i < ss.length := by omega
    have h4 : i < ts.length := by omega
    have d1 := tk_drop ss h3
    have d2 := tk_drop ts h4
    have e4 : ∀ l : List Tok, (List.map (fun a => a.c.length) l).sum = l.length * 4 := by
      intro l
      have : (fun a : Tok => a.c.length) = fun _ => 4 := by funext a; rfl
      rw [this, sum4]
    have k1 : ss.take (i + 1) = ss.take i ++ [ss[i]] := List.take_succ_eq_append_getElem h3
    have k2 : ts.take (i + 1) = ts.take i ++ [ts[i]] := List.take_succ_eq_append_getElem h4
    have hne : ss[i] ≠ ts[i] → ss ≠ ts := fun h e => h (by subst e; rfl)
    generalize ss[i] = s at d1 k1 hne
    generalize ts[i] = t at d2 k2 hne
    simp -implicitDefEqProofs [h0, h1, h5, tksV, h3, h4, e4, d1, d2]
    refine ⟨by omega, by omega, ⟨⟨rfl, rfl⟩, ⟨rfl, rfl⟩, ⟨rfl, rfl⟩, ⟨rfl, rfl⟩, trivial⟩, ?_⟩
    have hq : eqAll [CK.i IntKind.i64, CK.s, CK.i IntKind.i64, CK.i IntKind.i64] s.c t.c = true ↔ s = t := by
      obtain ⟨a, b, c, d⟩ := s
      obtain ⟨a', b', c', d'⟩ := t
      simp [Tok.c, eqAll, and_assoc]; simp only [Int.natCast_inj, decide_eq_true_iff]
      exact ⟨fun ⟨x1, x2, x3, x4⟩ => ⟨of_decide_eq_true x1, of_decide_eq_true x2, of_decide_eq_true x3, x4⟩, fun ⟨x1, x2, x3, x4⟩ => ⟨decide_eq_true x1, decide_eq_true x2, decide_eq_true x3, x4⟩⟩
    split
    · rename_i h
      have h := hq.1 h
      subst h
      exact ih (i + 1) _ (by omega) (by rw [k1, k2, he]) (by simp [h0, tksV]) (by simp [h1, tksV]) (by simp [wrap_suc (show i < 9223372036854775807 by omega)])
    · rename_i h
      exact hret (hne fun e => h (hq.2 e)) _ (by simp)
theorem ok19 {ss ts : List Tok} (hs : ss.length < 4611686018427387904) : Ok Tryd.prog 19 [tksV ss, tksV ts] H (.ret (bl (decide (ss.length = ts.length) && eqL ss ts))) H := by
  refine ok_fn hm Tryd.func19 c19 (by simp) fun hcl => ?_
  by_cases hl : ss.length = ts.length
  · simp -implicitDefEqProofs [i19, r19, tksV, hl]
    refine loop19 (ss := ss) (ts := ts) hl hs (fun h env h4 => ?_) (fun h env => ?_) ss.length 0 _ (by omega) (by simp) (by simp [tksV, hl]) (by simp [tksV]) (by simp)
    · have : eqL ss ts = false := by simp [eqL, h]
      rw [this]
      simp -implicitDefEqProofs [h4]
      exact cv_id
    · have : eqL ss ts = true := by simp [eqL, h]
      rw [this]
      simp -implicitDefEqProofs
      exact cv_id
  · have hl' : ¬ ((ss.length : Int) = ts.length) := by omega
    simp -implicitDefEqProofs [i19, r19, tksV, hl, hl']
    exact cv_id
end
end Go.Proofs.YtjbhokoihamhiaaDoor
/- T29 -/
namespace Go.Proofs.YtjbhokoihamhiaaDoor
open Go.Ab
/-- A token as it comes in. -/
structure Tr where
  k : Int
  tx : List UInt8
  n : Int
  p : Int
def Tr.c (t : Tr) : List SV := [i64 t.k, st (B t.tx), i64 t.n, i64 t.p]
def trsV (ts : List Tr) : SV := .slc (ts.flatMap Tr.c) ts.length
def Tr.chk (t : Tr) : Int := chkT t.k t.tx t.n
/-- The first error. -/
def chkL : List Tr → Int
  | [] => 0
  | t :: r => if t.chk = 0 then chkL r else t.chk
def jn (ts : List Tr) : List UInt8 := Lib.join (ts.map Tr.tx) [32]
/-- What Render returns. -/
def rndG (ts : List Tr) : List UInt8 × Int :=
  if 5000 < ts.length then ([], 12) else if chkL ts ≠ 0 then ([], chkL ts) else if 20000 < (jn ts).length then ([], 4) else (jn ts, 0)
theorem inter_snoc (sep x : List UInt8) : ∀ xs : List (List UInt8), xs ≠ [] → Lib.join (xs ++ [x]) sep = Lib.join xs sep ++ sep ++ x
  | [], h => absurd rfl h
  | [a], _ => by simp [Lib.join, List.intercalate, List.intersperse]
  | a :: b :: r, _ => by
    have ih := inter_snoc sep x (b :: r) (by simp)
    simp only [Lib.join, List.intercalate, List.cons_append, List.intersperse, List.flatten_cons] at ih ⊢
    rw [ih]; simp
theorem jn_snoc (ts : List Tr) (t : Tr) : jn (ts ++ [t]) = if ts = [] then t.tx else jn ts ++ [32] ++ t.tx := by
  unfold jn
  split
  · rename_i h; subst h; simp [Lib.join, List.intercalate]
  · rename_i h
    rw [List.map_append]
    exact inter_snoc _ _ _ (by simpa using h)
theorem chk_len {k n : Int} {tx : List UInt8} (h : chkT k tx n = 0) : tx.length ≤ 40 := by
  unfold chkT at h
  split at h
  · cases h
  · rename_i hn
    have hne : tx ≠ [] := fun e => hn (.inl e)
    have hpos : 0 < tx.length := List.length_pos_iff.2 hne
    split at h
    · rename_i t q hst
      split at h
      · cases h
      · rename_i hq
        obtain ⟨g1, g2, g3, g4⟩ := tok_facts hpos hst
        have := congrArg List.length g1
        have hq := mkq hst hpos
        simp [cut] at this
        omega
    · cases h
theorem jn_len : ∀ ts : List Tr, (∀ t ∈ ts, t.tx.length ≤ 40) → (jn ts).length ≤ 41 * ts.length
  | [], _ => by simp [jn, Lib.join, List.intercalate]
  | [t], h => by have := h t (by simp); simp [jn, Lib.join, List.intercalate]; omega
  | t :: s :: r, h => by
    have ih := jn_len (s :: r) (fun t ht => h t (List.mem_cons_of_mem _ ht))
    have := h t (by simp)
    simp only [jn, Lib.join, List.intercalate, List.map_cons, List.intersperse, List.flatten_cons, List.length_append, List.length_cons, List.length_nil] at ih ⊢
    omega
theorem chkL_take {ts : List Tr} : ∀ {i : Nat}, chkL (ts.drop i) = chkL ts → ∀ h : i < ts.length, (ts[i].chk = 0 → chkL (ts.drop (i + 1)) = chkL ts) ∧ (ts[i].chk ≠ 0 → chkL ts = ts[i].chk) := by
  intro i he h
  rw [List.drop_eq_getElem_cons h] at he
  simp only [chkL] at he
  constructor
  · intro h0; rw [if_pos h0] at he; exact he
  · intro h0; rw [if_neg h0] at he; exact he.symm
theorem tr_drop (ts : List Tr) {i : Nat} (h : i < ts.length) : ((ts.flatMap Tr.c).drop (i * 4)).take 4 = ts[i].c := by
  induction ts generalizing i with
  | nil => simp at h
  | cons t r ih =>
    cases i with
    | zero => simp [Tr.c]
    | succ i =>
      have e : (i + 1) * 4 = t.c.length + i * 4 := by simp [Tr.c]; omega
      rw [List.flatMap_cons, e, List.drop_append]
      simp only [List.getElem_cons_succ]
      rw [List.drop_of_length_le (by omega), List.nil_append, show t.c.length + i * 4 - t.c.length = i * 4 by omega]
      exact ih (by simpa using h)
theorem tr4 (l : List Tr) : (List.map (fun a => a.c.length) l).sum = l.length * 4 := by
  have : (fun a : Tr => a.c.length) = fun _ => 4 := by funext a; rfl
  rw [this, sum4]
theorem tr_at {ts : List Tr} {i : Nat} (h : i < ts.length) : (ts.flatMap Tr.c)[i * 4 + 1]? = some (st (B ts[i].tx)) := by
  have h1 := tr_drop ts h
  have h2 := congrArg (fun l : List SV => l[1]?) h1
  simp only [List.getElem?_take, List.getElem?_drop] at h2
  simpa [Tr.c] using h2
section
variable {H : List AO} {ts : List Tr}
theorem loop14 (hb : ∀ t ∈ ts, t.tx.length < 4611686018427387904) (hs : ts.length ≤ 5000) {N : Nat} {K : XE → Env → List AO → Prop}
    (hret : chkL ts ≠ 0 → ∀ env, env.get 2 = st ⟨#[]⟩ → env.get 3 = i64 (chkL ts) → K .ret env H) (hexit : chkL ts = 0 → ∀ env, env.get 4 = st (B (jn ts)) → K (.exit 0) env H) :
    ∀ (k i : Nat) (env : Env), i + k = ts.length → chkL (ts.drop i) = chkL ts → (∀ t ∈ ts.take i, t.tx.length ≤ 40) → env.get 0 = trsV ts → env.get 4 = st (B (jn (ts.take i))) → env.get 5 = i64 i → LI Tryd.prog N drawB l14_0 env H K := by
  intro k
  induction k with
  | zero =>
    intro i env hi he h40 h0 h4 h5
    refine li_go hm l14_0.eq_1 ?_
    have e : i = ts.length := by omega
    subst e
    rw [List.drop_length] at he
    rw [List.take_length] at h4
    simp -implicitDefEqProofs [h0, h4, h5, trsV]
    exact hexit he.symm _ (by simp [h4])
  | succ k ih =>
    intro i env hi he h40 h0 h4 h5
    refine li_go hm l14_0.eq_1 ?_
    have h3 : i < ts.length := by omega
    have d1 := tr_drop ts h3
    have k1 : ts.take (i + 1) = ts.take i ++ [ts[i]] := List.take_succ_eq_append_getElem h3
    obtain ⟨c1, c2⟩ := chkL_take he h3
    have hbt := hb ts[i] (List.getElem_mem h3)
    have hjl := jn_len (ts.take i) h40
    have hti : (ts.take i).length = i := by simp; omega
    have dt := tr_at h3
    have hnil : ts.take i = [] ↔ i = 0 := by rw [← List.length_eq_zero_iff, hti]
    generalize ts[i] = s at *
    simp -implicitDefEqProofs [h0, h4, h5, trsV, h3, tr4, d1]
    refine ⟨by omega, ?_⟩
    refine call_go (ok12 hbt s.k s.n (i64 s.p) rfl rfl) ?_
    have hcs : chkT s.k s.tx s.n = s.chk := rfl
    simp -implicitDefEqProofs [h0, h4, h5, trsV, hcs]
    by_cases hc : s.chk = 0
    · have h40' := chk_len hc
      have hn1 : jn (ts.take (i + 1)) = if ts.take i = [] then s.tx else jn (ts.take i) ++ [32] ++ s.tx := by rw [k1]; exact jn_snoc _ _
      have g40 : ∀ t ∈ ts.take (i + 1), t.tx.length ≤ 40 := by
        rw [k1]; intro t ht
        rcases List.mem_append.1 ht with h | h
        · exact h40 t h
        · rw [List.mem_singleton.1 h]; exact h40'
      have w1 := wrap_suc (show i < 9223372036854775807 by omega)
      by_cases hi0 : i = 0
      · have hj : jn (ts.take (i + 1)) = s.tx := by rw [hn1, if_pos (hnil.2 hi0)]
        have hj0 : jn (ts.take i) = [] := by rw [hnil.2 hi0]; rfl
        have hi0' : ¬ (0 < i) := by omega
        simp -implicitDefEqProofs [hc, h3, h0, h4, h5, trsV, tr4, d1, hi0', dt]
        rw [hj0]
        refine ⟨by omega, ⟨by simp; omega, ?_⟩⟩
        exact ih (i + 1) _ (by omega) (c1 hc) g40 (by simp [h0, trsV]) (by simp [hj]) (by simp [w1])
      · have hj : jn (ts.take (i + 1)) = jn (ts.take i) ++ [32] ++ s.tx := by rw [hn1, if_neg (fun h => hi0 (hnil.1 h))]
        have hi0' : 0 < i := by omega
        simp -implicitDefEqProofs [hc, h3, h0, h4, h5, trsV, tr4, d1, hi0', dt]
        refine ⟨by omega, by omega, ⟨by omega, ?_⟩⟩
        exact ih (i + 1) _ (by omega) (c1 hc) g40 (by simp [h0, trsV]) (by simp [hj]) (by simp [w1])
    · simp -implicitDefEqProofs [hc]
      have h2 := c2 hc
      exact hret (by rw [h2]; exact hc) _ (by simp) (by simp [h2])
theorem ok14 (hb : ∀ t ∈ ts, t.tx.length < 4611686018427387904) : Ok Tryd.prog 14 [trsV ts] H (.ret (.tup [st (B (rndG ts).1), i64 (rndG ts).2])) H := by
  refine ok_fn hm Tryd.func14 c14 (by simp) fun hcl => ?_
  by_cases hs : 5000 < ts.length
  · have hr : rndG ts = ([], 12) := by unfold rndG; rw [if_pos hs]
    have hs' : (5000 : Int) < ts.length := by omega
    rw [hr]
    simp -implicitDefEqProofs [i14, r14, trsV, hs']
    exact cv_id
  · have hs' : ¬ (5000 : Int) < ts.length := by omega
    simp -implicitDefEqProofs [i14, r14, trsV, hs']
    refine loop14 hb (by omega) (fun hc env g2 g3 => ?_) (fun hc env g4 => ?_) ts.length 0 _ (by omega) (by simp) (by simp) (by simp [trsV]) (by simp [jn, Lib.join, List.intercalate]) (by simp)
    · have hr : rndG ts = ([], chkL ts) := by unfold rndG; rw [if_neg hs, if_pos hc]
      rw [hr]
      simp -implicitDefEqProofs [g2, g3]
      exact cv_id
    · by_cases h4 : 20000 < (jn ts).length
      · have hr : rndG ts = ([], 4) := by unfold rndG; rw [if_neg hs, if_neg (by simpa using hc), if_pos h4]
        have h4' : (20000 : Int) < (jn ts).length := by omega
        rw [hr]
        simp -implicitDefEqProofs [g4, h4']
        exact cv_id
      · have hr : rndG ts = (jn ts, 0) := by unfold rndG; rw [if_neg hs, if_neg (by simpa using hc), if_neg h4]
        have h4' : ¬ (20000 : Int) < (jn ts).length := by omega
        rw [hr]
        simp -implicitDefEqProofs [g4, h4']
        exact cv_id
end
end Go.Proofs.YtjbhokoihamhiaaDoor
/- T30 -/
namespace Go.Proofs.YtjbhokoihamhiaaDoor
open Go.Ab
def rwX (ts : List Tr) : AO := ⟨ts.map fun t => st (B t.tx), 9, ts.length, true⟩
section
variable {H : List AO} {ts : List Tr}
theorem chkL_all : ∀ {ts : List Tr}, chkL ts = 0 → ∀ t ∈ ts, t.chk = 0
  | [], _, t, h => by simp at h
  | s :: r, hc, t, h => by
    simp only [chkL] at hc
    split at hc
    · rename_i h0
      rcases List.mem_cons.1 h with rfl | h
      · exact h0
      · exact chkL_all hc t h
    · contradiction
theorem loop13 (hb : ∀ t ∈ ts, t.tx.length < 4611686018427387904) (hs : ts.length ≤ 5000) {N : Nat} {K : XE → Env → List AO → Prop}
    (hret : chkL ts ≠ 0 → ∀ env R, env.get 2 = st ⟨#[]⟩ → env.get 3 = i64 (chkL ts) → K .ret env (H ++ R)) (hexit : chkL ts = 0 → ∀ env L, env.get 4 = .own H.length 0 ts.length 1 ts.length → K (.exit 0) env (H ++ rwX ts :: L)) :
    ∀ (k i : Nat) (env : Env) (L : List AO), i + k = ts.length → chkL (ts.drop i) = chkL ts → env.get 4 = .own H.length 0 i 1 i → env.get 15 = trsV ts → env.get 16 = i64 ts.length → env.get 17 = i64 i →
      LI Tryd.prog N drawB l13_0 env (H ++ rwX (ts.take i) :: L) K := by
  intro k
  induction k with
  | zero =>
    intro i env L hi he h4 h15 h16 h17
    refine li_go hm l13_0.eq_1 ?_
    have e : i = ts.length := by omega
    subst e
    rw [List.drop_length] at he
    simp -implicitDefEqProofs [h4, h15, h16, h17, trsV]
    exact hexit he.symm _ _ (by simp [h4])
  | succ k ih =>
    intro i env L hi he h4 h15 h16 h17
    refine li_go hm l13_0.eq_1 ?_
    have h3 : i < ts.length := by omega
    have d1 := tr_drop ts h3
    have k1 : ts.take (i + 1) = ts.take i ++ [ts[i]] := List.take_succ_eq_append_getElem h3
    obtain ⟨c1, c2⟩ := chkL_take he h3
    have hbt := hb ts[i] (List.getElem_mem h3)
    have hti : (ts.take i).length = i := by simp; omega
    have w1 := wrap_suc (show i < 9223372036854775807 by omega)
    generalize ts[i] = s at *
    have hmin : min i ts.length = i := by omega
    have hcc : s.c = [i64 s.k, st (B s.tx), i64 s.n, i64 s.p] := rfl
    have hrow : rwX (ts.take (i + 1)) = ⟨(ts.take i).map (fun t => st (B t.tx)) ++ [st (B s.tx)], 9, i + 1, true⟩ := by rw [k1]; simp [rwX, hti]
    simp -implicitDefEqProofs [h4, h15, h16, h17, trsV, h3, tr4, d1, rwX, hcc]
    refine ⟨by omega, ?_⟩
    refine call_go (ok11 hbt s.k s.n (i64 s.p) rfl) ?_
    have hcs : chkT s.k s.tx s.n = s.chk := rfl
    simp -implicitDefEqProofs [h4, h15, h16, h17, trsV, hcs]
    by_cases hc : s.chk = 0
    · simp -implicitDefEqProofs [hc, h4, h15, h16, h17, trsV, d1, rwX, Tr.c]
      refine ⟨by omega, by omega, by omega, ?_⟩
      refine LI.cong (H' := H ++ rwX (ts.take (i + 1)) :: (L ++ [⟨s.c, 25, 0, true⟩, ⟨[st (B s.tx)], 9, 0, true⟩])) (by rw [hrow]; simp [hcc, hmin]) ?_
      exact ih (i + 1) _ _ (by omega) (c1 hc) (by simp) (by simp [h15, trsV]) (by simp [h16]) (by simp [w1])
    · simp -implicitDefEqProofs [hc]
      have h2 := c2 hc
      exact hret (by rw [h2]; exact hc) _ _ (by simp) (by simp [h2])
theorem ok13 (hb : ∀ t ∈ ts, t.tx.length < 4611686018427387904) : Ok Tryd.prog 13 [trsV ts] H (.ret (.tup [st (B (rndG ts).1), i64 (rndG ts).2])) H := by
  refine ok_fn hm Tryd.func13 c13 (by simp) fun hcl => ?_
  by_cases hs : 5000 < ts.length
  · have hr : rndG ts = ([], 12) := by unfold rndG; rw [if_pos hs]
    have hs' : (5000 : Int) < ts.length := by omega
    rw [hr]
    simp -implicitDefEqProofs [i13, r13, trsV, hs']
    exact cv_id
  · have hs' : ¬ (5000 : Int) < ts.length := by omega
    simp -implicitDefEqProofs [i13, r13, trsV, hs']
    refine ⟨by omega, by omega, ?_⟩
    refine loop13 (H := H) hb (by omega) (fun hc env L g2 g3 => ?_) (fun hc env L g4 => ?_) ts.length 0 _ [] (by omega) (by simp) (by simp) (by simp [trsV]) (by simp) (by simp)
    · have hr : rndG ts = ([], chkL ts) := by unfold rndG; rw [if_neg hs, if_pos hc]
      rw [hr]
      simp -implicitDefEqProofs [g2, g3]
      exact cv_fz 4 hcl rfl (by simp)
    · simp -implicitDefEqProofs [g4, rwX]
      have h40 : ∀ t ∈ ts, t.tx.length ≤ 40 := fun t ht => chk_len (chkL_all hc t ht)
      have hjl := jn_len ts h40
      refine call_give H.length 2 (o := rwX ts) (by simp [rwX]) rfl (args' := [.slc ((ts.map Tr.tx).map fun s => st (B s)) (ts.map Tr.tx).length, st (B [32])]) (by simp [rwX, List.take_of_length_le]) (ok33 (ts.map Tr.tx) [32] (by simp; omega) (by unfold jn at hjl; omega)) ?_
      simp -implicitDefEqProofs
      have hj : Lib.join (ts.map Tr.tx) [32] = jn ts := rfl
      rw [hj]
      split
      · rename_i h4
        have hr : rndG ts = ([], 4) := by unfold rndG; rw [if_neg hs, if_neg (by simpa using hc), if_pos (by omega)]
        rw [hr]
        exact cv_fz 4 hcl rfl (by simp)
      · rename_i h4
        have hr : rndG ts = (jn ts, 0) := by unfold rndG; rw [if_neg hs, if_neg (by simpa using hc), if_neg (by omega)]
        rw [hr]
        exact cv_fz 4 hcl rfl (by simp)
end
end Go.Proofs.YtjbhokoihamhiaaDoor
/- T31 -/
namespace Go.Proofs.YtjbhokoihamhiaaDoor
open Go.Ab
def Tok.tr (t : Tok) : Tr := ⟨t.k, t.tx, t.n, t.p⟩
theorem tr_c (t : Tok) : t.tr.c = t.c := rfl
theorem trs_tks (ts : List Tok) : tksV ts = trsV (ts.map Tok.tr) := by
  simp [tksV, trsV, List.flatMap_map, tr_c]
/-- What Strip returns. -/
def strG (l : List UInt8) : List UInt8 × Int × Int :=
  if (scanG l).2.1 ≠ 0 then ([], (scanG l).2) else if (rndG ((scanG l).1.map Tok.tr)).2 ≠ 0 then ([], (rndG ((scanG l).1.map Tok.tr)).2, 20000) else ((rndG ((scanG l).1.map Tok.tr)).1, 0, 0)
def strV (x : List UInt8 × Int × Int) : SV := .tup [st (B x.1), fltV x.2.1 x.2.2]
theorem evs_tok {l : List UInt8} : ∀ {n p : Nat} {t : Tok}, Ev.tok t ∈ evs l n p → ∃ a q, p ≤ a ∧ a < l.length ∧ stepT l a = .tok t q
  | 0, p, t, h => by simp [evs] at h
  | n + 1, p, t, h => by
    simp only [evs] at h
    split at h
    · rename_i hp
      split at h
      · rename_i q hs
        obtain ⟨a, q', h1, h2, h3⟩ := evs_tok h
        refine ⟨a, q', ?_, h2, h3⟩
        unfold stepT at hs
        split at hs
        · cases hs; omega
        · have key : ∀ k q', mkStp l p k q' ≠ .skip q := by intro k q' h; unfold mkStp at h; split at h <;> cases h
          split at hs
          · exact absurd hs (key _ _)
          · split at hs
            · exact absurd hs (key _ _)
            · split at hs
              · exact absurd hs (key _ _)
              · split at hs
                · cases hs; omega
                · exact absurd hs (key _ _)
      · rename_i t' q hs
        rcases List.mem_cons.1 h with h | h
        · cases h; exact ⟨p, q, Nat.le_refl _, hp, hs⟩
        · obtain ⟨a, q', h1, h2, h3⟩ := evs_tok h
          have := mkq hs hp
          exact ⟨a, q', by omega, h2, h3⟩
      · simp at h
    · simp at h
theorem mem_toks {t : Tok} : ∀ {es : List Ev}, t ∈ toks es → Ev.tok t ∈ es
  | .tok s :: r, h => by
    rcases List.mem_cons.1 h with rfl | h
    · simp
    · exact List.mem_cons_of_mem _ (mem_toks h)
  | .flt _ _ :: r, h => List.mem_cons_of_mem _ (mem_toks h)
theorem scan_mem {l : List UInt8} {t : Tok} (h : t ∈ (scanG l).1) : ∃ a q, a < l.length ∧ stepT l a = .tok t q := by
  unfold scanG at h
  split at h
  · simp at h
  · split at h
    · obtain ⟨a, q, _, h1, h2⟩ := evs_tok (mem_toks h)
      exact ⟨a, q, h1, h2⟩
    · simp at h
theorem scan_tx {l : List UInt8} {t : Tok} (h : t ∈ (scanG l).1) : t.tx.length ≤ 40 ∧ t.tx.length ≤ l.length := by
  obtain ⟨a, q, h1, h2⟩ := scan_mem h
  obtain ⟨g1, _, _, g4⟩ := tok_facts h1 h2
  have := mkq h2 h1
  rw [g1, cut_len (by omega) (by omega)]
  omega
theorem scan_trs {l : List UInt8} : ∀ t ∈ (scanG l).1.map Tok.tr, t.tx.length < 4611686018427387904 := by
  intro t ht
  obtain ⟨s, hs, rfl⟩ := List.mem_map.1 ht
  have := scan_tx hs
  simp only [Tok.tr]; omega
section
variable {H : List AO} {l : List UInt8}
theorem ok17 (hl : l.length < 4611686018427387904) : Ok Tryd.prog 17 [st (B l)] H (.ret (strV (strG l))) H := by
  refine ok_fn hm Tryd.func17 c17 (by simp) fun hcl => ?_
  have h13 := fun H => ok13 (H := H) (scan_trs (l := l))
  have h15 := ok15 (H := H ++ [⟨[i64 0, i64 0], 32, 0, true⟩]) hl
  simp -implicitDefEqProofs [i17, r17]
  unfold strG
  generalize hg : scanG l = g at *
  obtain ⟨ts, e, p⟩ := g
  simp only [trs_tks] at *
  refine call_go h15 ?_
  by_cases he : e = 0
  · simp -implicitDefEqProofs [fltV, he]
    refine call_go (h13 _) ?_
    generalize rndG (ts.map Tok.tr) = r at *
    by_cases h0 : r.2 = 0
    · simp -implicitDefEqProofs [h0]
      exact cv_fz 4 hcl rfl (by simp [strV, fltV, he])
    · simp -implicitDefEqProofs [h0]
      exact cv_fz 4 hcl rfl (by simp [strV, fltV, he])
  · simp -implicitDefEqProofs [fltV, he]
    exact cv_fz 4 hcl rfl (by simp [strV, fltV])
theorem ok18 (hl : l.length < 4611686018427387904) : Ok Tryd.prog 18 [st (B l)] H (.ret (strV (strG l))) H := by
  refine ok_fn hm Tryd.func18 c18 (by simp) fun hcl => ?_
  have h14 := fun H => ok14 (H := H) (scan_trs (l := l))
  have h16 := ok16 (H := H ++ [⟨[i64 0, i64 0], 32, 0, true⟩]) hl
  simp -implicitDefEqProofs [i18, r18]
  unfold strG
  generalize hg : scanG l = g at *
  obtain ⟨ts, e, p⟩ := g
  simp only [trs_tks] at *
  refine call_go h16 ?_
  by_cases he : e = 0
  · simp -implicitDefEqProofs [fltV, he]
    refine call_go (h14 _) ?_
    generalize rndG (ts.map Tok.tr) = r at *
    by_cases h0 : r.2 = 0
    · simp -implicitDefEqProofs [h0]
      exact cv_fz 4 hcl rfl (by simp [strV, fltV, he])
    · simp -implicitDefEqProofs [h0]
      exact cv_fz 4 hcl rfl (by simp [strV, fltV, he])
  · simp -implicitDefEqProofs [fltV, he]
    exact cv_fz 4 hcl rfl (by simp [strV, fltV])
end
end Go.Proofs.YtjbhokoihamhiaaDoor
/- T32 -/
namespace Go.Proofs.YtjbhokoihamhiaaDoor
open Go.Ab
def aw1 : List Tok := [⟨1, [97, 49], 0, 0⟩, ⟨3, [61], 0, 3⟩, ⟨2, [50, 48], 20, 5⟩, ⟨3, [59], 0, 7⟩]
def aw2 : List Tr := [⟨1, [97], 0, 0⟩, ⟨2, [49], 1, 0⟩, ⟨3, [59], 0, 0⟩]
theorem sc_aw : scanG [97, 49, 32, 61, 32, 50, 48, 59] = (aw1, 0, 0) := by kernel_rfl
theorem rn_aw : rndG aw2 = ([97, 32, 49, 32, 59], 0) := by kernel_rfl
/-- All objects are laid down behind the k-th step. -/
def icFrz (ks : List Nat) (d : Nat) : Nat → IC → IC
  | 0, a => .keep ks (.frz d a)
  | k + 1, .seq a b => .seq a (icFrz ks d k b)
  | _, a => a
@[simp] theorem icFrz_zero (ks : List Nat) (d : Nat) (a : IC) : icFrz ks d 0 a = .keep ks (.frz d a) := by cases a <;> rfl
@[simp] theorem icFrz_succ (ks : List Nat) (d k : Nat) (a b : IC) : icFrz ks d (k + 1) (.seq a b) = .seq a (icFrz ks d k b) := rfl
@[simp] theorem env_frz_nil (H : List AO) (d : Nat) : Env.frz [] H d = [] := rfl
@[simp] theorem env_frz_cons (k : Nat) (v : SV) (e : Env) (H : List AO) (d : Nat) : Env.frz ((k, v) :: e) H d = (k, v.fz 0 [] H d) :: Env.frz e H d := rfl
@[simp] theorem X_frz {P : Program} {N : Nat} {D : Array Oper → List Nat → List Ins → Bool} (d : Nat) (a : IC) (env : Env) (H : List AO) (K : XE → Env → List AO → Prop) : X P N D (.frz d a) env H K = X P N D a (env.frz H d) (H.map AO.dead) K := rfl
theorem fz0_ptr {L : List AO} (d k off len sz ver p : Nat) : SV.fz 0 [] L (d + 1) (.ptr (.own k off len sz ver) p) = (match L[k]? with
      | some o => if o.live = true ∧ o.ver = ver ∧ off < o.cells.length then .ptr (.slc ((o.cells.drop off).map (SV.fz 0 [] L d)) 0) p else .any
      | none => .any) := by
  have := fz_ptr (n := 0) (L := L) (d := d) k off len sz ver p
  rw [Nat.zero_add] at this
  exact this
theorem fz0_own {L : List AO} (d k off len sz ver : Nat) : SV.fz 0 [] L (d + 1) (.own k off len sz ver) = (match L[k]? with
      | some o => if o.live = true ∧ o.ver = ver ∧ off + len * sz ≤ o.cells.length then .slc (((o.cells.drop off).take (len * sz)).map (SV.fz 0 [] L d)) len else .any
      | none => .any) := by
  have := fz_own 0 [] L d k off len sz ver
  rw [Nat.zero_add] at this
  simp only [placeOf] at this
  exact this
theorem c10f : chkF Tryd.prog drawB Tryd.f10 (icFrz [1, 2, 3, 4, 5] 4 4 i10) r10 = true := by kernel_rfl
theorem awake_nil : Ok Tryd.prog 10 [] [] (.ret (bl true)) [] := by
  refine ok_fn hm Tryd.func10 c10f (by simp) fun hcl => ?_
  have h15 := fun H => ok15 (H := H) (l := [97, 49, 32, 61, 32, 50, 48, 59]) (by decide)
  rw [sc_aw] at h15
  have h13 := fun H => ok13 (H := H) (ts := aw2) (by decide)
  rw [rn_aw] at h13
  have h19 := fun H => ok19 (H := H) (ss := aw1) (ts := aw1) (by decide)
  have he : eqL aw1 aw1 = true := by simp [eqL]
  rw [he] at h19
  simp -implicitDefEqProofs [i10, r10]
  refine call_go (h15 _) ?_
  simp -implicitDefEqProofs [fltV]
  refine call_give 2 1 (by simp; rfl) rfl (args' := [trsV aw2]) (by simp [trsV, aw2, Tr.c, SV.gv]) (h13 _) ?_
  simp -implicitDefEqProofs [fz0_ptr, fz0_own]
  have e1 : ∀ L, SV.fz 0 [] L 4 (tksV aw1) = tksV aw1 := fun L => fz_under (by kernel_rfl)
  simp only [e1]
  refine callq_st (r := bl true) (fun _ => h19 _) ?_
  simp -implicitDefEqProofs
  exact cv_fz 1 hcl rfl (by simp)
theorem awake_ok {H : List AO} : Ok Tryd.prog 10 [] H (.ret (bl true)) H := ok_lift awake_nil rfl
end Go.Proofs.YtjbhokoihamhiaaDoor
