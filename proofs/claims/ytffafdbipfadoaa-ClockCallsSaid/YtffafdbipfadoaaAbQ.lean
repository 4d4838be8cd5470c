/-
  Closed calls reckoned by the kernel: a machine over abstract values, and that what it answers is so.
-/
import Derived.Test.YtffafdbipfadoaaAbP
set_option linter.all false
namespace Go.Ab

/-! Values made plain before they go on -/
def fN {α : Type} (n : Nat) (k : Nat → α) : α := match n with | 0 => k 0 | m + 1 => k (m + 1)
def fI {α : Type} (n : Int) (k : Int → α) : α := match n with | .ofNat m => fN m fun m => k (.ofNat m) | .negSucc m => fN m fun m => k (.negSucc m)
def fL {α β : Type} : List α → (List α → β) → β
  | [], k => k []
  | x :: r, k => fL r fun r' => k (x :: r')
theorem fN_eq {α : Type} (n : Nat) (k : Nat → α) : fN n k = k n := by cases n <;> rfl
theorem fI_eq {α : Type} (n : Int) (k : Int → α) : fI n k = k n := by cases n <;> simp [fI, fN_eq]
theorem fL_eq {α β : Type} : ∀ (l : List α) (k : List α → β), fL l k = k l
  | [], _ => rfl
  | x :: r, k => by simp only [fL]; rw [fL_eq r]
def fV {α : Type} (v : Value) (k : Value → α) : α := match v with
  | .int kd n => fI n fun n => k (.int kd n)
  | .bool true => k (.bool true)
  | .bool false => k (.bool false)
  | .string s => k (.string s)
  | v => k v
theorem fV_eq {α : Type} (v : Value) (k : Value → α) : fV v k = k v := by
  unfold fV; split <;> simp [fI_eq]
def fS {α : Type} (v : SV) (k : SV → α) : α := match v with
  | .val u => fV u fun u => k (.val u)
  | .own i off len sz ver => fN off fun off => fN len fun len => fN ver fun ver => k (.own i off len sz ver)
  | .ptr s j => fN j fun j => k (.ptr s j)
  | .gd b x => k (.gd b x)
  | v => k v
theorem fS_eq {α : Type} (v : SV) (k : SV → α) : fS v k = k v := by
  unfold fS; split <;> simp [fN_eq, fV_eq]

/-! Equality -/
def vbeq : Value → Value → Bool
  | .int k n, .int k' n' => decide (k = k') && decide (n = n')
  | .bool b, .bool b' => b == b'
  | .string s, .string s' => decide (s.data.toList = s'.data.toList)
  | .pointer none, .pointer none => true
  | .slice none 0 0, .slice none 0 0 => true
  | .nilFunc, .nilFunc => true
  | .nilIface, .nilIface => true
  | .map none, .map none => true
  | _, _ => false
theorem vbeq_eq {v w : Value} (h : vbeq v w = true) : v = w := by
  unfold vbeq at h
  split at h
  · simp at h; obtain ⟨rfl, rfl⟩ := h; rfl
  · simp at h; subst h; rfl
  · rename_i x y
    have : x = y := by
      obtain ⟨⟨x⟩⟩ := x; obtain ⟨⟨y⟩⟩ := y; simp at h; subst h; rfl
    rw [this]
  all_goals first | rfl | cases h
mutual
def SV.beq : SV → SV → Bool
  | .any, y => match y with | .any => true | _ => false
  | .val v, y => match y with | .val w => vbeq v w | _ => false
  | .gd b x, y => match y with | .gd c z => b == c && x.beq z | _ => false
  | .slc a n, y => match y with | .slc b m => n == m && SV.beqL a b | _ => false
  | .own i off len sz ver, y => match y with | .own i' off' len' sz' ver' => i == i' && off == off' && len == len' && sz == sz' && ver == ver' | _ => false
  | .ptr s k, y => match y with | .ptr t j => k == j && s.beq t | _ => false
  | .agg a, y => match y with | .agg b => SV.beqL a b | _ => false
  | .tup a, y => match y with | .tup b => SV.beqL a b | _ => false
  | .fn f a b, y => match y with
    | .fn g c d => (match f, g with | .func f, .func g => f == g | _, _ => false) && SV.beqL a c && SV.beqL b d
    | _ => false
  | .ifc t x, y => match y with | .ifc u z => t == u && x.beq z | _ => false
def SV.beqL : List SV → List SV → Bool
  | [], m => match m with | [] => true | _ => false
  | x :: l, m => match m with | y :: m => x.beq y && SV.beqL l m | _ => false
end
mutual
theorem SV.beq_eq : ∀ {x y : SV}, SV.beq x y = true → x = y
  | .any, y, h => by cases y <;> simp [SV.beq] at h; rfl
  | .val v, y, h => by cases y <;> simp [SV.beq] at h; rw [vbeq_eq h]
  | .gd b x, y, h => by cases y <;> simp [SV.beq] at h; obtain ⟨rfl, h⟩ := h; rw [SV.beq_eq h]
  | .slc a n, y, h => by cases y <;> simp [SV.beq] at h; obtain ⟨rfl, h⟩ := h; rw [SV.beqL_eq h]
  | .own i off len sz ver, y, h => by cases y <;> simp [SV.beq] at h; obtain ⟨⟨⟨⟨rfl, rfl⟩, rfl⟩, rfl⟩, rfl⟩ := h; rfl
  | .ptr s k, y, h => by cases y <;> simp [SV.beq] at h; obtain ⟨rfl, h⟩ := h; rw [SV.beq_eq h]
  | .agg a, y, h => by cases y <;> simp [SV.beq] at h; rw [SV.beqL_eq h]
  | .tup a, y, h => by cases y <;> simp [SV.beq] at h; rw [SV.beqL_eq h]
  | .fn f a b, y, h => by
    cases y <;> simp [SV.beq] at h
    obtain ⟨⟨h1, h2⟩, h3⟩ := h
    rw [SV.beqL_eq h2, SV.beqL_eq h3]
    split at h1
    · rw [eq_of_beq h1]
    · cases h1
  | .ifc t x, y, h => by cases y <;> simp [SV.beq] at h; obtain ⟨rfl, h⟩ := h; rw [SV.beq_eq h]
theorem SV.beqL_eq : ∀ {x y : List SV}, SV.beqL x y = true → x = y
  | [], y, h => by cases y <;> simp [SV.beqL] at h; rfl
  | x :: l, y, h => by cases y <;> simp [SV.beqL] at h; rw [SV.beq_eq h.1, SV.beqL_eq h.2]
end

/-! The instructions that compute -/
def pbinOk (op : BinOp) (k : BK) (x y : SV) : Bool :=
  match k with
  | .i k =>
    match op with
    | .quo | .rem => x.isI k && y.isI k && !decide (y.int = 0)
    | .add | .sub | .mul | .and | .or | .xor | .andNot | .eql | .neq | .lss | .leq | .gtr | .geq => x.isI k && y.isI k
    | _ => false
  | .sh k yk =>
    match op with
    | .shl | .shr => x.isI k && y.isI yk && decide (0 ≤ y.int)
    | _ => false
  | .s =>
    match op with
    | .add => x.isS && y.isS && decide (x.str.size + y.str.size ≤ 9223372036854775807)
    | .eql | .neq | .lss | .gtr => x.isS && y.isS
    | _ => false
  | .b =>
    match op with
    | .eql | .neq => x.isB && y.isB
    | _ => false
  | .pnil right =>
    let z := if right then x else y
    match op, z.ug with
    | .eql, .ptr _ _ => z.vd
    | .neq, .ptr _ _ => z.vd
    | .eql, .val (.pointer none) => z.vd
    | .neq, .val (.pointer none) => z.vd
    | _, _ => false
theorem pbinOk_spec {op : BinOp} {k : BK} {x y : SV} (h : pbinOk op k x y = true) : (pbin op k x y).1 := by
  cases k with
  | i k => cases op <;> simp_all [pbinOk, pbin]
  | sh k yk => cases op <;> simp_all [pbinOk, pbin]
  | s => cases op <;> simp_all [pbinOk, pbin]
  | b => cases op <;> simp_all [pbinOk, pbin]
  | pnil r =>
    simp only [pbinOk] at h
    simp only [pbin]
    revert h
    generalize (if r = true then x else y) = z
    intro h
    split at h <;> simp_all
def eqSideB : List CK → List SV → List SV → Bool
  | .i k :: r, x :: l, y :: m => x.isI k && y.isI k && eqSideB r l m
  | .b :: r, x :: l, y :: m => x.isB && y.isB && eqSideB r l m
  | .s :: r, x :: l, y :: m => x.isS && y.isS && eqSideB r l m
  | [], [], [] => true
  | _, _, _ => false
theorem eqSideB_spec : ∀ {ks : List CK} {l m : List SV}, eqSideB ks l m = true → eqSide ks l m
  | [], [], [], _ => trivial
  | .i k :: r, x :: l, y :: m, h => by simp only [eqSideB, Bool.and_eq_true] at h; exact ⟨h.1, eqSideB_spec h.2⟩
  | .b :: r, x :: l, y :: m, h => by simp only [eqSideB, Bool.and_eq_true] at h; exact ⟨h.1, eqSideB_spec h.2⟩
  | .s :: r, x :: l, y :: m, h => by simp only [eqSideB, Bool.and_eq_true] at h; exact ⟨h.1, eqSideB_spec h.2⟩
  | [], [], _ :: _, h => by simp [eqSideB] at h
  | [], _ :: _, _, h => by simp [eqSideB] at h
  | c :: _, [], _, h => by cases c <;> simp [eqSideB] at h
  | c :: _, _ :: _, [], h => by cases c <;> simp [eqSideB] at h
def bdB : Option SV → Bool
  | none => true
  | some x => x.isN && decide (0 ≤ x.int)
theorem bdB_spec {o : Option SV} (h : bdB o = true) : bdOf o := by cases o <;> simp_all [bdB, bdOf]
def lenB {α : Type} : List α → Nat → Bool
  | _, 0 => true
  | [], _ + 1 => false
  | _ :: r, n + 1 => lenB r n
theorem lenB_spec {α : Type} : ∀ {l : List α} {n : Nat}, lenB l n = true → n ≤ l.length
  | _, 0, _ => Nat.zero_le _
  | [], _ + 1, h => by simp [lenB] at h
  | _ :: r, n + 1, h => by simp only [lenB] at h; have := lenB_spec h; simp; omega
def partB (size : Nat) (v : SV) : Bool :=
  match v.ug with
  | .agg l => decide (l.length = size) && v.vd
  | x => decide (size = 1) && x.isCell && v.vd
theorem partB_spec {n : Nat} {v : SV} (h : partB n v = true) : partOk n v := by
  unfold partB at h
  unfold partOk
  split at h <;> simp_all

def pvOk (i : I) (g : Od → SV) (H : List AO) : Bool :=
  match i with
  | .eqf _ ks x y =>
    match (g x).ug, (g y).ug with
    | .agg l, .agg m => (g x).vd && (g y).vd && eqSideB ks l m
    | _, _ => false
  | .mov _ => true
  | .pick c a b => (g c).isB && (if (g c).bool then (g a).isB else (g b).isB)
  | .bin op k x y => pbinOk op k (g x) (g y)
  | .neg k x => (g x).isI k
  | .not x => (g x).isB
  | .cvi _ x => (g x).isN
  | .ld1 p => (g p).vd && lenB ((g p).ug.at H) 1
  | .ldn n p => (g p).vd && lenB ((g p).ug.at H) n && decide (0 < n)
  | .fa _ p =>
    match (g p).ug with
    | .ptr _ _ => (g p).vd
    | _ => false
  | .fld1 off x =>
    match (g x).ug with
    | .agg l => (g x).vd && lenB l (off + 1)
    | _ => false
  | .fldn off n x =>
    match (g x).ug with
    | .agg l => (g x).vd && lenB l (off + n)
    | _ => false
  | .ia _ s j => (g s).vd && (g s).ug.isSl && (g j).isN && decide (0 ≤ (g j).int) && decide ((g j).int < (g s).ug.slen)
  | .iap len _ p j =>
    match (g p).ug with
    | .ptr _ _ => (g p).vd && (g j).isN && decide (0 ≤ (g j).int) && decide ((g j).int < len)
    | _ => false
  | .ixs s j => (g s).isS && (g j).isN && decide (0 ≤ (g j).int) && lenB (g s).str.data.toList ((g j).int.toNat + 1)
  | .ixa len sz one x j =>
    match (g x).ug with
    | .agg l => (g x).vd && (g j).isN && decide (0 ≤ (g j).int) && decide ((g j).int < len) && decide (l.length = len * sz) && (!one || decide (sz = 1))
    | _ => false
  | .sl sz x lo hi =>
    (g x).vd && (g x).ug.isSl && (g x).ug.szIs sz && bdB (lo.map g) && bdB (hi.map g) && decide (loOf (lo.map g) ≤ hiOf (g x).ug.slen (hi.map g)) && decide (hiOf (g x).ug.slen (hi.map g) ≤ (g x).ug.slen)
  | .sls x lo hi =>
    (g x).isS && bdB (lo.map g) && bdB (hi.map g) && decide (loOf (lo.map g) ≤ hiOf (g x).str.size (hi.map g)) && decide (hiOf (g x).str.size (hi.map g) ≤ (g x).str.size)
  | .ext x j =>
    match (g x).ug with
    | .tup l => (g x).vd && lenB l (j + 1)
    | _ => false
  | .len x => (g x).vd && (g x).ug.isSl
  | .lens x => (g x).isS
  | .mm _ k x y => (g x).isI k && (g y).isI k
  | .mkf _ _ _ => true
  | .mki _ _ => true
  | .nck x =>
    match (g x).ug with
    | .ptr _ _ => (g x).vd
    | .fn (.func _) _ _ => (g x).vd
    | _ => false
  | .bld z parts => parts.all fun p => partB p.2.1 (g p.2.2) && decide (p.1 + p.2.1 ≤ z.length)

theorem pvOk_spec {i : I} {g : Od → SV} {H : List AO} (h : pvOk i g H = true) : (pv i g H).1 := by
  cases i with
  | eqf neg ks x y =>
    simp only [pvOk] at h
    simp only [pv]
    split at h
    · rename_i l m h1 h2
      simp only [h1, h2]
      simp only [Bool.and_eq_true] at h
      exact ⟨h.1.1, h.1.2, eqSideB_spec h.2⟩
    · cases h
  | mov x => trivial
  | pick c a b =>
    simp only [pvOk, Bool.and_eq_true] at h
    refine ⟨h.1, fun e => ?_, fun e => ?_⟩ <;> simpa [e] using h.2
  | bin op k x y => exact pbinOk_spec h
  | neg k x => exact h
  | not x => exact h
  | cvi k x => exact h
  | ld1 p =>
    simp only [pvOk, Bool.and_eq_true] at h
    exact ⟨h.1, lenB_spec h.2⟩
  | ldn n p =>
    simp only [pvOk, Bool.and_eq_true, decide_eq_true_eq] at h
    exact ⟨h.1.1, lenB_spec h.1.2, h.2⟩
  | fa off p =>
    simp only [pvOk] at h
    simp only [pv]
    split at h <;> simp_all
  | fld1 off x =>
    simp only [pvOk] at h
    simp only [pv]
    split at h
    · rename_i l h1
      simp only [h1]
      simp only [Bool.and_eq_true] at h
      exact ⟨h.1, lenB_spec h.2⟩
    · cases h
  | fldn off n x =>
    simp only [pvOk] at h
    simp only [pv]
    split at h
    · rename_i l h1
      simp only [h1]
      simp only [Bool.and_eq_true] at h
      exact ⟨h.1, lenB_spec h.2⟩
    · cases h
  | ia sz s j =>
    simp only [pvOk, Bool.and_eq_true, decide_eq_true_eq] at h
    exact ⟨h.1.1.1.1, h.1.1.1.2, h.1.1.2, h.1.2, h.2⟩
  | iap len sz p j =>
    simp only [pvOk] at h
    simp only [pv]
    split at h
    · rename_i s k h1
      simp only [h1]
      simp only [Bool.and_eq_true, decide_eq_true_eq] at h
      exact ⟨h.1.1.1, h.1.1.2, h.1.2, h.2⟩
    · cases h
  | ixs s j =>
    simp only [pvOk, Bool.and_eq_true, decide_eq_true_eq] at h
    refine ⟨h.1.1.1, h.1.1.2, h.1.2, ?_⟩
    have h1 := lenB_spec h.2
    have h2 := h.1.2
    have h3 : (g s).str.size = (g s).str.data.toList.length := rfl
    rw [h3]; omega
  | ixa len sz one x j =>
    simp only [pvOk] at h
    simp only [pv]
    split at h
    · rename_i l h1
      simp only [h1]
      simp only [Bool.and_eq_true, decide_eq_true_eq, Bool.or_eq_true, Bool.not_eq_true'] at h
      refine ⟨h.1.1.1.1.1, h.1.1.1.1.2, h.1.1.1.2, h.1.1.2, h.1.2, fun e => ?_⟩
      rcases h.2 with h2 | h2
      · rw [e] at h2; cases h2
      · exact h2
    · cases h
  | sl sz x lo hi =>
    simp only [pvOk, Bool.and_eq_true, decide_eq_true_eq] at h
    exact ⟨h.1.1.1.1.1.1, h.1.1.1.1.1.2, h.1.1.1.1.2, bdB_spec h.1.1.1.2, bdB_spec h.1.1.2, h.1.2, h.2⟩
  | sls x lo hi =>
    simp only [pvOk, Bool.and_eq_true, decide_eq_true_eq] at h
    exact ⟨h.1.1.1.1, bdB_spec h.1.1.1.2, bdB_spec h.1.1.2, h.1.2, h.2⟩
  | ext x j =>
    simp only [pvOk] at h
    simp only [pv]
    split at h
    · rename_i l h1
      simp only [h1]
      simp only [Bool.and_eq_true] at h
      exact ⟨h.1, lenB_spec h.2⟩
    · cases h
  | len x => simp only [pvOk, Bool.and_eq_true] at h; exact h
  | lens x => exact h
  | mm mx k x y => simp only [pvOk, Bool.and_eq_true] at h; exact h
  | mkf f a b => trivial
  | mki t x => trivial
  | nck x =>
    simp only [pvOk] at h
    simp only [pv]
    split at h <;> simp_all
  | bld z ps =>
    simp only [pvOk, List.all_eq_true, Bool.and_eq_true, decide_eq_true_eq] at h
    exact fun p hp => ⟨partB_spec (h p hp).1, (h p hp).2⟩

/-- What it gives, made plain. -/
def pvV {α : Type} (i : I) (g : Od → SV) (H : List AO) (k : SV → α) : α :=
  match i with
  | .bin .add .s x y => fL ((g x).str.data.toList ++ (g y).str.data.toList) fun l => k (st ⟨⟨l⟩⟩)
  | .sls x lo hi => fL (((g x).str.data.toList.drop (loOf (lo.map g))).take (hiOf (g x).str.size (hi.map g) - loOf (lo.map g))) fun l => k (st ⟨⟨l⟩⟩)
  | .fldn off n x =>
    match (g x).ug with
    | .agg l => fL ((l.drop off).take n) fun l => k (.agg l)
    | _ => k .any
  | .ldn n p => fL (((g p).ug.at H).take n) fun l => k (.agg l)
  | .bld z ps => fL (fillS z (ps.map fun p => (p.1, g p.2.2))) fun l => k (.agg l)
  | i => fS (pv i g H).2 k
theorem pvV_eq {α : Type} (i : I) (g : Od → SV) (H : List AO) (k : SV → α) : pvV i g H k = k (pv i g H).2 := by
  unfold pvV
  split
  · rw [fL_eq]
    congr 1
  · rw [fL_eq]
    congr 1
    simp only [pv, st]
    congr 2
    apply ByteArray.ext
    apply Array.ext'
    simp [ByteArray.data_extract, List.drop_take]
  · split
    · rename_i l h; rw [fL_eq]; simp only [pv, h]
    · rename_i h
      simp only [pv]
      try split
      all_goals first | rfl | (rename_i l h1; exact absurd h1 (h l))
  · rw [fL_eq]; rfl
  · rw [fL_eq]; rfl
  · rw [fS_eq]

/-! The instructions that make or write memory -/
def cellsB (l : List SV) : Bool := l.all SV.isCell
theorem cellsB_spec {l : List SV} (h : cellsB l = true) : cellsOk l := by
  unfold cellsB at h; rw [List.all_eq_true] at h; exact h
/-- Objects with one replaced, made plain. -/
def setB {β : Type} (H : List AO) (i : Nat) (o : AO) (k : List AO → β) : β := fL o.cells fun cs => fN o.ver fun ver => fL (H.set i ⟨cs, o.ty, ver, o.live⟩) k
theorem setB_eq {β : Type} (H : List AO) (i : Nat) (o : AO) (k : List AO → β) : setB H i o k = k (H.set i o) := by
  unfold setB; rw [fL_eq, fN_eq, fL_eq]
def newB {β : Type} (H : List AO) (o : AO) (k : List AO → β) : β := fL o.cells fun cs => fL (H ++ [⟨cs, o.ty, o.ver, o.live⟩]) k
theorem newB_eq {β : Type} (H : List AO) (o : AO) (k : List AO → β) : newB H o k = k (H ++ [o]) := by
  unfold newB; rw [fL_eq, fL_eq]
abbrev Res := Option (SV × List AO)
def xeB (q : Nat) (i : E) (g : Od → SV) (H : List AO) : Res :=
  match i with
  | .alc T z => fN H.length fun n => newB H ⟨z, T, 0, true⟩ fun H' => some (.ptr (.own n 0 0 0 0) 0, H')
  | .box T x => if (g x).vd && cellsB (g x).ug.flat then fN H.length fun n => newB H ⟨(g x).ug.flat, T, 0, true⟩ fun H' => some (.ptr (.own n 0 0 0 0) 0, H') else none
  | .bsl T sz len z parts =>
    if (parts.all fun p => partB sz (g p.2) && decide (p.1 * sz + sz ≤ len * sz)) then
      fL (fillS (List.replicate len z).flatten (parts.map fun p => (p.1 * sz, g p.2))) fun cs =>
      if cellsB cs then fN H.length fun n => newB H ⟨cs, T, 0, true⟩ fun H' => some (.own n 0 len sz 0, H') else none
    else none
  | .mks T sz bytes z len cap =>
    if (g len).isN && (g cap).isN && decide (0 ≤ (g len).int) && decide ((g len).int ≤ (g cap).int) && decide (bytes * (g cap).int ≤ 140737488355328) && decide ((g cap).int ≤ 140737488355328) then
      fN H.length fun n => fN (g len).int.toNat fun m => newB H ⟨(List.replicate m z).flatten, T, 0, true⟩ fun H' => some (.own n 0 m sz 0, H')
    else none
  | .app T sz bytes s x =>
    if (g s).vd && (g x).vd && (g x).ug.isSl && lenB ((g x).ug.row H) ((g x).ug.slen * sz) then
      fL ((g x).ug.els H sz) fun xs =>
      if cellsB xs && decide (((g s).ug.slen + (g x).ug.slen) * bytes ≤ 140737488355328) && decide ((g s).ug.slen + (g x).ug.slen ≤ 140737488355328) then
        match (g s).ug with
        | .own i 0 n sz' ver =>
          match H[i]? with
          | some o => if decide (sz' = sz) && o.live && decide (o.ver = ver) && decide (o.ty = T) && decide (o.cells.length = n * sz) && decide (q ≤ i) then
              fN (n + (g x).ug.slen) fun n' => fN (ver + 1) fun ver' => setB H i (o.grow xs) fun H' => some (.own i 0 n' sz ver', H')
            else none
          | none => none
        | _ => none
      else none
    else none
  | .st n p x =>
    if (g p).vd && (g x).vd && cellsB (g x).ug.flat && decide ((g x).ug.flat.length = n) && decide (0 < n) then
      match (g p).ug with
      | .ptr (.own i off _ _ ver) k =>
        match H[i]? with
        | some o => if lenB (objCells H i ver) (off + k + n) && decide (q ≤ i) then setB H i (o.put (off + k) (g x).ug.flat) fun H' => some (.val undef, H') else none
        | none => none
      | _ => none
    else none
  | .nil T sz x => if (g x).vd && (g x).ug.isNil then fN H.length fun n => newB H ⟨[], T, 0, true⟩ fun H' => some (.own n 0 0 sz 0, H') else none
  | .sl0 T sz x => if (g x).vd && (g x).ug.isSl then fN H.length fun n => newB H ⟨[], T, 0, true⟩ fun H' => some (.own n 0 0 sz 0, H') else none
  | .snil neg _ x => if (g x).vd && (g x).ug.isSl && !decide ((g x).ug.slen = 0) then some (bl neg, H) else none
  | _ => none

/-- The first q objects are as they were. -/
def Held (q : Nat) (H H' : List AO) : Prop := H.length ≤ H'.length ∧ H'.take q = H.take q
theorem Held.refl (q : Nat) (H : List AO) : Held q H H := ⟨Nat.le_refl _, rfl⟩
theorem Held.trans {q : Nat} {H H' H'' : List AO} (h : Held q H H') (h' : Held q H' H'') : Held q H H'' := ⟨Nat.le_trans h.1 h'.1, h'.2.trans h.2⟩
theorem Held.new {q : Nat} {H : List AO} (hq : q ≤ H.length) (L : List AO) : Held q H (H ++ L) := ⟨by simp, by rw [List.take_append_of_le_length hq]⟩
theorem Held.set {q i : Nat} (H : List AO) (o : AO) (hq : q ≤ i) : Held q H (H.set i o) := ⟨by simp, by rw [List.take_set_of_le hq]⟩

theorem xeB_spec {q : Nat} {i : E} {g : Od → SV} {H : List AO} {v : SV} {H' : List AO} (hq : q ≤ H.length) (h : xeB q i g H = some (v, H')) : (∀ K : SV → List AO → Prop, K v H' → xe i g H K) ∧ Held q H H' := by
  cases i with
  | alc T z =>
    simp only [xeB, fN_eq, newB_eq] at h
    cases h
    exact ⟨fun K hk => hk, Held.new hq _⟩
  | box T x =>
    simp only [xeB, fN_eq, newB_eq] at h
    split at h
    · rename_i hc
      simp only [Bool.and_eq_true] at hc
      cases h
      exact ⟨fun K hk => ⟨hc.1, cellsB_spec hc.2, hk⟩, Held.new hq _⟩
    · cases h
  | bsl T sz len z ps =>
    simp only [xeB, fN_eq, newB_eq, fL_eq] at h
    split at h
    · rename_i hc
      simp only [List.all_eq_true, Bool.and_eq_true, decide_eq_true_eq] at hc
      split at h
      · rename_i hc2
        cases h
        exact ⟨fun K hk => ⟨fun p hp => ⟨partB_spec (hc p hp).1, (hc p hp).2⟩, cellsB_spec hc2, hk⟩, Held.new hq _⟩
      · cases h
    · cases h
  | mks T sz bytes z len cap =>
    simp only [xeB, fN_eq, newB_eq] at h
    split at h
    · rename_i hc
      simp only [Bool.and_eq_true, decide_eq_true_eq] at hc
      cases h
      exact ⟨fun K hk => ⟨hc.1.1.1.1.1, hc.1.1.1.1.2, hc.1.1.1.2, hc.1.1.2, hc.1.2, hc.2, hk⟩, Held.new hq _⟩
    · cases h
  | app T sz bytes s x =>
    simp only [xeB, fN_eq, setB_eq, fL_eq] at h
    split at h
    · rename_i hc
      simp only [Bool.and_eq_true] at hc
      split at h
      · rename_i hc2
        simp only [Bool.and_eq_true, decide_eq_true_eq] at hc2
        split at h
        · rename_i i n sz' ver hs
          split at h
          · rename_i o ho
            split at h
            · rename_i hc3
              simp only [Bool.and_eq_true, decide_eq_true_eq] at hc3
              cases h
              refine ⟨fun K hk => ⟨hc.1.1.1, hc.1.1.2, hc.1.2, lenB_spec hc.2, cellsB_spec hc2.1.1, hc2.1.2, hc2.2, ?_⟩, Held.set _ _ hc3.2⟩
              rw [hs]
              refine ⟨hc3.1.1.1.1.1, ⟨o, ho, hc3.1.1.1.1.2, hc3.1.1.1.2, hc3.1.1.2, hc3.1.2⟩, ?_⟩
              rw [setObj_some ho]; exact hk
            · cases h
          · cases h
        · cases h
      · cases h
    · cases h
  | st n p x =>
    simp only [xeB, setB_eq] at h
    split at h
    · rename_i hc
      simp only [Bool.and_eq_true, decide_eq_true_eq] at hc
      split at h
      · rename_i i off len sz ver k hs
        split at h
        · rename_i o ho
          split at h
          · rename_i hc3
            simp only [Bool.and_eq_true, decide_eq_true_eq] at hc3
            cases h
            refine ⟨fun K hk => ⟨hc.1.1.1.1, hc.1.1.1.2, cellsB_spec hc.1.1.2, hc.1.2, hc.2, ?_⟩, Held.set _ _ hc3.2⟩
            rw [hs]
            refine ⟨lenB_spec hc3.1, ?_⟩
            rw [setObj_some ho]; exact hk
          · cases h
        · cases h
      · cases h
    · cases h
  | cpy sz d s => simp [xeB] at h
  | call f as => simp [xeB] at h
  | nil T sz x =>
    simp only [xeB, fN_eq, newB_eq] at h
    split at h
    · rename_i hc
      simp only [Bool.and_eq_true] at hc
      cases h
      exact ⟨fun K hk => ⟨hc.1, hc.2, hk⟩, Held.new hq _⟩
    · cases h
  | sl0 T sz x =>
    simp only [xeB, fN_eq, newB_eq] at h
    split at h
    · rename_i hc
      simp only [Bool.and_eq_true] at hc
      cases h
      exact ⟨fun K hk => ⟨hc.1, hc.2, hk⟩, Held.new hq _⟩
    · cases h
  | snil neg right x =>
    simp only [xeB] at h
    split at h
    · rename_i hc
      simp only [Bool.and_eq_true, Bool.not_eq_true', decide_eq_false_iff_not] at hc
      cases h
      exact ⟨fun K hk => ⟨hc.1.1, hc.1.2, fun _ => hk, fun e => absurd e hc.2⟩, Held.refl _ _⟩
    · cases h

/-! Operations -/
structure Calls2 where
  q : SV → List SV → List AO → Option SV
  e : Nat → SV → List SV → List AO → Res
structure Calls2.Good (P : Program) (C : Calls2) : Prop where
  q : ∀ f args H r, C.q f args H = some r → OkC P f args H (.ret r) H
  e : ∀ q f args H r H', q ≤ H.length → C.e q f args H = some (r, H') → OkC P f args H (.ret r) H' ∧ Held q H H'

def fAs {β : Type} : List Od → (Od → SV) → (List SV → β) → β
  | [], _, k => k []
  | x :: r, g, k => fS (g x) fun v => fAs r g fun l => k (v :: l)
theorem fAs_eq {β : Type} : ∀ (l : List Od) (g : Od → SV) (k : List SV → β), fAs l g k = k (l.map g)
  | [], _, _ => rfl
  | x :: r, g, k => by simp only [fAs]; rw [fS_eq, fAs_eq r]; rfl

def xjB (C : Calls2) (q : Nat) (o : Ins) (env : Env) (H : List AO) : Option (Env × List AO) :=
  match o.j with
  | .p i => if pvOk i env.ev H then pvV i env.ev H fun v => some (env.put o.d v, H) else none
  | .e (.call f args) => fAs args env.ev fun as => match C.e q (env.ev f) as H with
    | some (r, H') => fS r fun r => some (env.put o.d r, H')
    | none => none
  | .e i => match xeB q i env.ev H with
    | some (v, H') => some (env.put o.d v, H')
    | none => none
  | .q f args => fAs args env.ev fun as => match C.q (env.ev f) as H with
    | some r => fS r fun r => some (env.put o.d r, H)
    | none => none
def xoB (C : Calls2) (q : Nat) (o : Ins) (env : Env) (H : List AO) : Option (Env × List AO) :=
  match o.g with
  | none => xjB C q o env H
  | some (s, want) =>
    if (env.get s).bish then
      match o.j with
      | .p i => if (env.get s).on want then (if pvOk i env.ev H then pvV i env.ev H fun v => some (env.put o.d (.gd true v), H) else none) else some (env.put o.d (.gd false (pv i env.ev H).2), H)
      | .q f args => if (env.get s).on want then (fAs args env.ev fun as => match C.q (env.ev f) as H with
          | some r => fS r fun r => some (env.put o.d (.gd true r), H)
          | none => none) else some (env.put o.d (.gd false .any), H)
      | .e _ => if (env.get s).on want then xjB C q o env H else some (env.put o.d (.val undef), H)
    else none
section
variable {P : Program} {C : Calls2}
theorem xjB_spec (hC : C.Good P) {q : Nat} {o : Ins} {env env' : Env} {H H' : List AO} (hq : q ≤ H.length) (h : xjB C q o env H = some (env', H')) :
    (∀ K : XE → Env → List AO → Prop, K .normal env' H' → xj P o env H K) ∧ Held q H H' := by
  unfold xjB at h
  cases hj : o.j with
  | p i =>
    rw [hj] at h
    simp only [pvV_eq] at h
    split at h
    · rename_i hc
      cases h
      refine ⟨fun K hk => ?_, Held.refl _ _⟩
      simp only [xj, hj]
      exact ⟨pvOk_spec hc, hk⟩
    · cases h
  | q f args =>
    rw [hj] at h
    simp only [fAs_eq, fS_eq] at h
    split at h
    · rename_i r hr
      cases h
      refine ⟨fun K hk => ?_, Held.refl _ _⟩
      simp only [xj, hj]
      exact ⟨r, hC.q _ _ _ _ hr, hk⟩
    · cases h
  | e i =>
    rw [hj] at h
    by_cases hcall : i.isCall = true
    · cases i <;> simp [E.isCall] at hcall
      rename_i f args
      simp only [fAs_eq, fS_eq] at h
      split at h
      · rename_i r H1 hr
        cases h
        have h1 := hC.e _ _ _ _ _ _ hq hr
        refine ⟨fun K hk => ?_, h1.2⟩
        simp only [xj, hj]
        exact ⟨.ret r, _, h1.1, hk⟩
      · cases h
    · have h' : (match xeB q i env.ev H with | some (v, H') => some (env.put o.d v, H') | none => none) = some (env', H') := by
        cases i <;> first | exact h | simp [E.isCall] at hcall
      split at h'
      · rename_i v H1 hr
        cases h'
        have h1 := xeB_spec hq hr
        refine ⟨fun K hk => ?_, h1.2⟩
        have := h1.1 (fun v H' => K .normal (env.put o.d v) H') hk
        simp only [xj, hj]
        cases i <;> first | exact this | simp [E.isCall] at hcall
      · cases h'
theorem xoB_spec (hC : C.Good P) {q : Nat} {o : Ins} {env env' : Env} {H H' : List AO} (hq : q ≤ H.length) (h : xoB C q o env H = some (env', H')) :
    (∀ K : XE → Env → List AO → Prop, K .normal env' H' → xo P o env H K) ∧ Held q H H' := by
  unfold xoB at h
  cases hg : o.g with
  | none =>
    rw [hg] at h
    have h1 := xjB_spec hC hq h
    refine ⟨fun K hk => ?_, h1.2⟩
    simp only [xo, hg]
    exact h1.1 K hk
  | some sw =>
    obtain ⟨s, want⟩ := sw
    rw [hg] at h
    simp only at h
    split at h
    · rename_i hb
      cases hj : o.j with
      | p i =>
        rw [hj] at h
        simp only [pvV_eq] at h
        split at h
        · rename_i hon
          split at h
          · rename_i hc
            cases h
            refine ⟨fun K hk => ?_, Held.refl _ _⟩
            simp only [xo, hg, hj, hon]
            exact ⟨hb, fun _ => pvOk_spec hc, hk⟩
          · cases h
        · rename_i hon
          cases h
          have hon' : (env.get s).on want = false := by simpa using hon
          refine ⟨fun K hk => ?_, Held.refl _ _⟩
          simp only [xo, hg, hj, hon']
          exact ⟨hb, (fun e => by cases e), hk⟩
      | q f args =>
        rw [hj] at h
        simp only [fAs_eq, fS_eq] at h
        split at h
        · rename_i hon
          split at h
          · rename_i r hr
            cases h
            refine ⟨fun K hk => ?_, Held.refl _ _⟩
            simp only [xo, hg, hj, hon]
            exact ⟨hb, r, fun _ => hC.q _ _ _ _ hr, hk⟩
          · cases h
        · rename_i hon
          cases h
          have hon' : (env.get s).on want = false := by simpa using hon
          refine ⟨fun K hk => ?_, Held.refl _ _⟩
          simp only [xo, hg, hj, hon']
          exact ⟨hb, .any, (fun e => by cases e), hk⟩
      | e i =>
        rw [hj] at h
        simp only at h
        split at h
        · rename_i hon
          have h1 := xjB_spec hC hq h
          refine ⟨fun K hk => ?_, h1.2⟩
          simp only [xo, hg, hj, hon]
          exact ⟨hb, fun _ => h1.1 K hk, (fun e => by cases e)⟩
        · rename_i hon
          cases h
          have hon' : (env.get s).on want = false := by simpa using hon
          refine ⟨fun K hk => ?_, Held.refl _ _⟩
          simp only [xo, hg, hj, hon']
          exact ⟨hb, (fun e => by cases e), fun _ => hk⟩
    · cases h
end

def opsB (C : Calls2) (q : Nat) : List Ins → Env → List AO → Option (Env × List AO)
  | [], env, H => some (env, H)
  | o :: r, env, H => match xoB C q o env H with
    | some (env, H) => opsB C q r env H
    | none => none
/-- What a quiet operation gives. -/
def qvB (C : Calls2) (o : Ins) (env : Env) (H : List AO) : Option SV :=
  match o.g with
  | none =>
    match o.j with
    | .p i => if pvOk i env.ev H then pvV i env.ev H some else none
    | .q f args => fAs args env.ev fun as => C.q (env.ev f) as H
    | .e _ => none
  | some (s, want) =>
    if (env.get s).bish then
      match o.j with
      | .p i => if (env.get s).on want then (if pvOk i env.ev H then pvV i env.ev H fun v => some (.gd true v) else none) else some (.gd false (pv i env.ev H).2)
      | .q f args => if (env.get s).on want then (fAs args env.ev fun as => match C.q (env.ev f) as H with
          | some r => some (.gd true r)
          | none => none) else some (.gd false .any)
      | .e _ => none
    else none
def xdB (C : Calls2) (q : Nat) : List Ins → Env → List AO → List (Ins × SV) → Option (Env × List AO)
  | [], env, H, _ => some (env, H)
  | o :: r, env, H, pend =>
    if o.j.quiet then
      match qvB C o env H with
      | some v => fS v fun v => xdB C q r (env.put o.d v) H ((o, v) :: pend)
      | none => none
    else
      match xoB C q o env H with
      | some (env', H') => if pend.all fun p => !loose o pend p.1 || (match qvB C p.1 env' H' with | some v => v.beq p.2 | none => false) then xdB C q r env' H' pend else none
      | none => none

section
variable {P : Program} {C : Calls2}
theorem opsB_spec (hC : C.Good P) {q : Nat} : ∀ {l : List Ins} {env env' : Env} {H H' : List AO}, q ≤ H.length → opsB C q l env H = some (env', H') →
    (∀ K : XE → Env → List AO → Prop, K .normal env' H' → xops P l env H K) ∧ Held q H H'
  | [], env, env', H, H', hq, h => by
    simp only [opsB] at h; cases h
    exact ⟨fun K hk => hk, Held.refl _ _⟩
  | o :: r, env, env', H, H', hq, h => by
    simp only [opsB] at h
    split at h
    · rename_i env1 H1 h1
      have h2 := xoB_spec hC hq h1
      have h3 := opsB_spec hC (Nat.le_trans hq h2.2.1) h
      exact ⟨fun K hk => h2.1 _ (h3.1 K hk), h2.2.trans h3.2⟩
    · cases h
theorem qvB_spec (hC : C.Good P) {o : Ins} {env : Env} {H : List AO} {v : SV} (h : qvB C o env H = some v) : quietV P o env H v := by
  unfold qvB at h
  unfold quietV
  cases hg : o.g with
  | none =>
    rw [hg] at h
    simp only at h
    cases hj : o.j with
    | p i =>
      rw [hj] at h
      simp only [pvV_eq] at h
      split at h
      · rename_i hc
        cases h
        exact ⟨pvOk_spec hc, rfl⟩
      · cases h
    | q f args => rw [hj] at h; simp only [fAs_eq] at h; exact hC.q _ _ _ _ h
    | e i => rw [hj] at h; cases h
  | some sw =>
    obtain ⟨s, want⟩ := sw
    rw [hg] at h
    simp only at h
    split at h
    · rename_i hb
      refine ⟨hb, ?_⟩
      cases hj : o.j with
      | p i =>
        rw [hj] at h
        simp only [pvV_eq] at h
        split at h
        · rename_i hon
          split at h
          · rename_i hc
            cases h
            simp only [hon]
            exact ⟨fun _ => pvOk_spec hc, trivial⟩
          · cases h
        · rename_i hon
          cases h
          have hon' : (env.get s).on want = false := by simpa using hon
          simp only [hon']
          exact ⟨(fun e => by cases e), trivial⟩
      | q f args =>
        rw [hj] at h
        simp only [fAs_eq] at h
        split at h
        · rename_i hon
          split at h
          · rename_i r hr
            cases h
            simp only [hon]
            exact ⟨r, fun _ => hC.q _ _ _ _ hr, rfl⟩
          · cases h
        · rename_i hon
          cases h
          have hon' : (env.get s).on want = false := by simpa using hon
          simp only [hon']
          exact ⟨.any, (fun e => by cases e), rfl⟩
      | e i => rw [hj] at h; cases h
    · cases h
theorem xd_quiet {o : Ins} {r : List Ins} {env : Env} {H : List AO} {K : XE → Env → List AO → Prop} {pend : List (Ins × SV)} {v : SV} (hq : o.j.quiet = true) (h : quietV P o env H v) (hk : xd P ((o, v) :: pend) r (env.put o.d v) H K) : xd P pend (o :: r) env H K := by
  rw [xd, if_pos hq]
  unfold quietV at h
  cases hg : o.g with
  | none =>
    rw [hg] at h
    cases hj : o.j with
    | p i => rw [hj] at h; obtain ⟨h1, rfl⟩ := h; exact ⟨h1, hk⟩
    | q f args => rw [hj] at h; exact ⟨v, h, hk⟩
    | e i => rw [hj] at h; exact h.elim
  | some sw =>
    obtain ⟨s, want⟩ := sw
    rw [hg] at h
    obtain ⟨hb, h⟩ := h
    cases hj : o.j with
    | p i => rw [hj] at h; obtain ⟨h1, rfl⟩ := h; exact ⟨hb, h1, hk⟩
    | q f args => rw [hj] at h; obtain ⟨r', h1, rfl⟩ := h; exact ⟨hb, r', h1, hk⟩
    | e i => rw [hj] at h; exact h.elim
theorem xdB_spec (hC : C.Good P) {q : Nat} : ∀ {l : List Ins} {env env' : Env} {H H' : List AO} {pend : List (Ins × SV)}, q ≤ H.length → xdB C q l env H pend = some (env', H') →
    (∀ K : XE → Env → List AO → Prop, K .normal env' H' → xd P pend l env H K) ∧ Held q H H'
  | [], env, env', H, H', pend, hq, h => by
    simp only [xdB] at h; cases h
    exact ⟨fun K hk => hk, Held.refl _ _⟩
  | o :: r, env, env', H, H', pend, hq, h => by
    simp only [xdB] at h
    split at h
    · rename_i hqu
      split at h
      · rename_i v hv
        rw [fS_eq] at h
        have h3 := xdB_spec hC hq h
        exact ⟨fun K hk => xd_quiet hqu (qvB_spec hC hv) (h3.1 K hk), h3.2⟩
      · cases h
    · rename_i hqu
      split at h
      · rename_i env1 H1 h1
        split at h
        · rename_i hp
          have h2 := xoB_spec hC hq h1
          have h3 := xdB_spec hC (Nat.le_trans hq h2.2.1) h
          refine ⟨fun K hk => ?_, h2.2.trans h3.2⟩
          rw [xd, if_neg hqu]
          refine h2.1 _ ⟨fun p hpm hl => ?_, h3.1 K hk⟩
          rw [List.all_eq_true] at hp
          have := hp p hpm
          rw [hl] at this
          simp only [Bool.not_true, Bool.false_or] at this
          split at this
          · rename_i v hv
            rw [← SV.beq_eq this]; exact qvB_spec hC hv
          · cases this
        · cases h
      · cases h
end

/-! Code -/
inductive XB where
  | normal
  | exit (id : Nat)
  | ret
def XB.xe : XB → XE
  | .normal => .normal
  | .exit i => .exit i
  | .ret => .ret
abbrev Out3 := Option (XB × Env × List AO)
def keepB {β : Type} : List Nat → Env → (Env → β) → β
  | [], _, k => k []
  | t :: r, env, k => fS (env.get t) fun v => keepB r env fun e => k ((t, v) :: e)
theorem keepB_eq {β : Type} : ∀ (l : List Nat) (env : Env) (k : Env → β), keepB l env k = k (env.keep l)
  | [], _, _ => rfl
  | t :: r, env, k => by simp only [keepB]; rw [fS_eq, keepB_eq r]; rfl
def loopB (body : Env → List AO → Out3) : Nat → Env → List AO → Out3
  | 0, _, _ => none
  | n + 1, env, H => match body env H with
    | some (.normal, env, H) => loopB body n env H
    | some (x, env, H) => some (x, env, H)
    | none => none
def runC (C : Calls2) (F q : Nat) : IC → Env → List AO → Out3
  | .skip, env, H => some (.normal, env, H)
  | .reg l, env, H => match opsB C q l env H with | some (env, H) => some (.normal, env, H) | none => none
  | .drw _ l, env, H => match xdB C q l env H [] with | some (env, H) => some (.normal, env, H) | none => none
  | .seq a b, env, H => match runC C F q a env H with
    | some (.normal, env, H) => runC C F q b env H
    | some (x, env, H) => some (x, env, H)
    | none => none
  | .cond c a b, env, H => if (env.ev c).isB then (if (env.ev c).bool then runC C F q a env H else runC C F q b env H) else none
  | .blk id a, env, H => match runC C F q a env H with
    | some (.exit i, env, H) => if i = id then some (.normal, env, H) else some (.exit i, env, H)
    | some (x, env, H) => some (x, env, H)
    | none => none
  | .loop a, env, H => loopB (runC C F q a) F env H
  | .exit id, env, H => some (.exit id, env, H)
  | .ret, env, H => some (.ret, env, H)
  | .keep ks a, env, H => keepB ks env fun env => runC C F q a env H

section
variable {P : Program} {C : Calls2}
theorem loopB_spec (hm : P.follows .mixedOrders = true) {N : Nat} {a : IC} {q : Nat} {body : Env → List AO → Out3}
    (hb : ∀ {env env' : Env} {H H' : List AO} {x : XB}, q ≤ H.length → body env H = some (x, env', H') → (∀ K : XE → Env → List AO → Prop, K x.xe env' H' → X P N drawB a env H K) ∧ Held q H H') :
    ∀ {n : Nat} {env env' : Env} {H H' : List AO} {x : XB}, q ≤ H.length → loopB body n env H = some (x, env', H') → (∀ K : XE → Env → List AO → Prop, K x.xe env' H' → LI P N drawB a env H K) ∧ Held q H H'
  | 0, _, _, _, _, _, _, h => by simp [loopB] at h
  | n + 1, env, env', H, H', x, hq, h => by
    simp only [loopB] at h
    split at h
    · rename_i env1 H1 h1
      have h2 := hb hq h1
      have h3 := loopB_spec hm hb (Nat.le_trans hq h2.2.1) h
      exact ⟨fun K hk => li_round hm (h2.1 _ (h3.1 K hk)), h2.2.trans h3.2⟩
    · rename_i x1 env1 H1 hne h1
      cases h
      have h2 := hb hq h1
      refine ⟨fun K hk => li_round hm (h2.1 _ ?_), h2.2⟩
      cases x with
      | normal => exact (hne rfl).elim
      | exit i => exact hk
      | ret => exact hk
    · cases h
theorem runC_spec (hm : P.follows .mixedOrders = true) (hC : C.Good P) {N F q : Nat} : ∀ (i : IC) {env env' : Env} {H H' : List AO} {x : XB}, q ≤ H.length → runC C F q i env H = some (x, env', H') →
    (∀ K : XE → Env → List AO → Prop, K x.xe env' H' → X P N drawB i env H K) ∧ Held q H H' := by
  intro i
  induction i with
  | skip => intro env env' H H' x hq h; simp only [runC] at h; cases h; exact ⟨fun K hk => hk, Held.refl _ _⟩
  | reg l =>
    intro env env' H H' x hq h
    simp only [runC] at h
    split at h
    · rename_i env1 H1 h1
      cases h
      exact opsB_spec hC hq h1
    · cases h
  | drw m l =>
    intro env env' H H' x hq h
    simp only [runC] at h
    split at h
    · rename_i env1 H1 h1
      cases h
      exact xdB_spec hC hq h1
    · cases h
  | seq a b iha ihb =>
    intro env env' H H' x hq h
    simp only [runC] at h
    split at h
    · rename_i env1 H1 h1
      have h2 := iha hq h1
      have h3 := ihb (Nat.le_trans hq h2.2.1) h
      exact ⟨fun K hk => h2.1 _ (h3.1 K hk), h2.2.trans h3.2⟩
    · rename_i x1 env1 H1 hne h1
      cases h
      have h2 := iha hq h1
      refine ⟨fun K hk => h2.1 _ ?_, h2.2⟩
      cases x with
      | normal => exact (hne rfl).elim
      | exit i => exact hk
      | ret => exact hk
    · cases h
  | cond c a b iha ihb =>
    intro env env' H H' x hq h
    simp only [runC] at h
    split at h
    · rename_i hb
      split at h
      · rename_i ht
        have h2 := iha hq h
        exact ⟨fun K hk => ⟨hb, fun _ => h2.1 K hk, (fun e => by rw [ht] at e; cases e)⟩, h2.2⟩
      · rename_i ht
        have h2 := ihb hq h
        exact ⟨fun K hk => ⟨hb, fun e => absurd e ht, fun _ => h2.1 K hk⟩, h2.2⟩
    · cases h
  | blk id a iha =>
    intro env env' H H' x hq h
    simp only [runC] at h
    split at h
    · rename_i i env1 H1 h1
      have h2 := iha hq h1
      split at h
      · rename_i hi
        cases h
        exact ⟨fun K hk => h2.1 _ (by simp only [XB.xe]; rw [if_pos hi]; exact hk), h2.2⟩
      · rename_i hi
        cases h
        exact ⟨fun K hk => h2.1 _ (by simp only [XB.xe]; rw [if_neg hi]; exact hk), h2.2⟩
    · rename_i x1 env1 H1 hne h1
      cases h
      have h2 := iha hq h1
      refine ⟨fun K hk => h2.1 _ ?_, h2.2⟩
      cases x with
      | normal => exact hk
      | exit i => exact (hne _ rfl).elim
      | ret => exact hk
    · cases h
  | loop a iha =>
    intro env env' H H' x hq h
    simp only [runC] at h
    exact loopB_spec hm (fun hq h => iha hq h) hq h
  | exit id => intro env env' H H' x hq h; simp only [runC] at h; cases h; exact ⟨fun K hk => hk, Held.refl _ _⟩
  | ret => intro env env' H H' x hq h; simp only [runC] at h; cases h; exact ⟨fun K hk => hk, Held.refl _ _⟩
  | keep ks a iha =>
    intro env env' H H' x hq h
    simp only [runC, keepB_eq] at h
    have h2 := iha hq h
    exact ⟨fun K hk => h2.1 K hk, h2.2⟩
end

/-! Functions -/
structure Row where
  i : IC
  rs : List RS
  np : Nat
  keep : Bool
def sideB (e : Env) (H : List AO) : RS → Bool
  | .t _ => true
  | .c1 s => (e.get s).vd && lenB ((e.get s).ug.at H) 1
  | .cn s n => (e.get s).vd && lenB ((e.get s).ug.at H) n && decide (0 < n)
theorem sideB_spec {e : Env} {H : List AO} {r : RS} (h : sideB e H r = true) : r.side e H := by
  cases r with
  | t n => trivial
  | c1 s => simp only [sideB, Bool.and_eq_true] at h; exact ⟨h.1, lenB_spec h.2⟩
  | cn s n => simp only [sideB, Bool.and_eq_true, decide_eq_true_eq] at h; exact ⟨h.1.1, lenB_spec h.1.2, h.2⟩
def bodyB (C : Calls2) (F q : Nat) (r : Row) (args : List SV) (H : List AO) : Res :=
  if args.length = r.np then
    match runC C F q r.i (argsEnv args) H with
    | some (.exit _, _, _) => none
    | some (_, env, H1) => if r.rs.all (sideB env H1) then some (resV env H1 r.rs, H1) else none
    | none => none
  else none
/-- The table of the functions. -/
abbrev Tbl := Nat → Option Row
def goB (tb : Tbl) (F D : Nat) : Nat → Calls2
  | 0 => ⟨fun _ _ _ => none, fun _ _ _ _ => none⟩
  | d + 1 =>
    let C := goB tb F D d
    { q := fun f args H => if f.vd then (match f.ug with
        | .fn (.func k) a b => match tb k with
          | some r => if r.keep then none else match bodyB C F H.length r (a ++ args ++ b) H with
            | some (v, H1) => some (v.fz H.length [] (H1.drop H.length) D)
            | none => none
          | none => none
        | _ => none) else none
      e := fun q f args H => if f.vd then (match f.ug with
        | .fn (.func k) a b => match tb k with
          | some r => if r.keep then bodyB C F q r (a ++ args ++ b) H else match bodyB C F H.length r (a ++ args ++ b) H with
            | some (v, H1) => some (v.fz H.length [] (H1.drop H.length) D, H)
            | none => none
          | none => none
        | _ => none) else none }
def TblOk (P : Program) (tb : Tbl) : Prop := ∀ (k : Nat) (r : Row), tb k = some r → ∃ fn, P.funcs[k]? = some fn ∧ chkF P drawB fn r.i r.rs = true ∧ fn.params.size + fn.nfree = r.np

section
variable {P : Program}
theorem bodyB_spec (hm : P.follows .mixedOrders = true) {C : Calls2} (hC : C.Good P) {F q : Nat} {r : Row} {args : List SV} {H H1 : List AO} {v : SV} (hq : q ≤ H.length) (h : bodyB C F q r args H = some (v, H1)) {fn : Func} {k : FuncId}
    (hf : P.funcs[k]? = some fn) (hc : chkF P drawB fn r.i r.rs = true) (hn : fn.params.size + fn.nfree = r.np) {w : SV} {H' : List AO} (hcv : closed H → Cv H.length v H1 w H') : Ok P k args H (.ret w) H' ∧ Held q H H1 := by
  unfold bodyB at h
  split at h
  · rename_i hl
    have key : ∀ (x : XB) (env : Env) (H2 : List AO), (x = .normal ∨ x = .ret) → runC C F q r.i (argsEnv args) H = some (x, env, H2) →
        (if r.rs.all (sideB env H2) then some (resV env H2 r.rs, H2) else none) = some (v, H1) → Ok P k args H (.ret w) H' ∧ Held q H H1 := by
      intro x env H2 hx hr h
      split at h
      · rename_i hs
        cases h
        rw [List.all_eq_true] at hs
        refine ⟨?_, (runC_spec (N := 0) hm hC _ hq hr).2⟩
        refine ok_fn hm hf hc (by rw [hl, hn]) fun hcl => ?_
        refine (runC_spec hm hC _ hq hr).1 _ ?_
        rcases hx with rfl | rfl
        · exact ⟨fun s hm => sideB_spec (hs s hm), hcv hcl⟩
        · exact ⟨fun s hm => sideB_spec (hs s hm), hcv hcl⟩
      · cases h
    split at h
    · cases h
    · rename_i x env H2 hne hr
      refine key x env H2 ?_ hr h
      cases x with
      | normal => exact .inl rfl
      | exit i => exact (hne _ rfl).elim
      | ret => exact .inr rfl
    · cases h
  · cases h
theorem held_split {H H1 : List AO} (h : Held H.length H H1) : H1 = H ++ H1.drop H.length := by
  have := h.2
  rw [List.take_length] at this
  conv => lhs; rw [← List.take_append_drop H.length H1, this]
theorem goB_good (hm : P.follows .mixedOrders = true) {tb : Tbl} (ht : TblOk P tb) (F D : Nat) : ∀ d, (goB tb F D d).Good P := by
  intro d
  induction d with
  | zero => exact ⟨fun f args H r h => by simp [goB] at h, fun q f args H r H' hq h => by simp [goB] at h⟩
  | succ d ih =>
    have hq : ∀ f args H r, (goB tb F D (d + 1)).q f args H = some r → OkC P f args H (.ret r) H := by
      intro f args H r h
      simp only [goB] at h
      split at h
      · rename_i hvd
        split at h
        · rename_i k a b hug
          split at h
          · rename_i row hrow
            split at h
            · cases h
            · split at h
              · rename_i v H1 hb
                cases h
                obtain ⟨fn, h1, h2, h3⟩ := ht k row hrow
                refine ⟨hvd, ?_⟩
                rw [hug]
                have hheld : Held H.length H H1 := (bodyB_spec hm ih (Nat.le_refl _) hb h1 h2 h3 (w := v) (H' := H1) (fun _ => cv_id)).2
                exact (bodyB_spec hm ih (Nat.le_refl _) hb h1 h2 h3 (fun hcl => cv_none D (held_split hheld) (Nat.le_refl _) hcl)).1
              · cases h
          · cases h
        · cases h
      · cases h
    refine ⟨hq, ?_⟩
    intro q f args H r H' hqq h
    simp only [goB] at h
    split at h
    · rename_i hvd
      split at h
      · rename_i k a b hug
        split at h
        · rename_i row hrow
          obtain ⟨fn, h1, h2, h3⟩ := ht k row hrow
          split at h
          · have := bodyB_spec hm ih hqq h h1 h2 h3 (w := r) (H' := H') (fun _ => cv_id)
            exact ⟨⟨hvd, by rw [hug]; exact this.1⟩, this.2⟩
          · rename_i hkeep
            split at h
            · rename_i v H1 hb
              cases h
              refine ⟨hq _ _ _ _ ?_, Held.refl _ _⟩
              simp only [goB, hvd, hug, hrow, hkeep, hb]
              rfl
            · cases h
        · cases h
      · cases h
    · cases h
end

/-! The table, row by row -/
def RowsOk (P : Program) (n : Nat) (l : List (Option Row)) : Prop := ∀ (k : Nat) (r : Row), l[k]? = some (some r) → ∃ fn, P.funcs[n + k]? = some fn ∧ chkF P drawB fn r.i r.rs = true ∧ fn.params.size + fn.nfree = r.np
section
variable {P : Program} {n : Nat} {l : List (Option Row)}
theorem rows_nil : RowsOk P n [] := fun k r h => by simp at h
theorem rows_skip (h : RowsOk P (n + 1) l) : RowsOk P n (none :: l) := by
  intro k r hk
  cases k with
  | zero => simp at hk
  | succ k =>
    have := h k r (by simpa using hk)
    rwa [show n + (k + 1) = n + 1 + k by omega]
theorem rows_cons {r0 : Row} (h0 : ∃ fn, P.funcs[n]? = some fn ∧ chkF P drawB fn r0.i r0.rs = true ∧ fn.params.size + fn.nfree = r0.np) (h : RowsOk P (n + 1) l) : RowsOk P n (some r0 :: l) := by
  intro k r hk
  cases k with
  | zero => simp at hk; subst hk; exact h0
  | succ k =>
    have := h k r (by simpa using hk)
    rwa [show n + (k + 1) = n + 1 + k by omega]
def tblOf (l : List (Option Row)) : Tbl := fun k => match l[k]? with | some o => o | none => none
theorem tblOf_ok (h : RowsOk P 0 l) : TblOk P (tblOf l) := by
  intro k r hk
  unfold tblOf at hk
  split at hk
  · rename_i o ho
    subst hk
    have := h k r ho
    rwa [Nat.zero_add] at this
  · cases hk
/-- A closed call, reckoned. -/
def closedB (l : List (Option Row)) (F D d : Nat) (k : FuncId) : Bool :=
  match (goB (tblOf l) F D d).q (.fn (.func k) [] []) [] [] with
  | some v => v.beq (bl true)
  | none => false
theorem closed_ok (hm : P.follows .mixedOrders = true) (h : RowsOk P 0 l) {F D d : Nat} {k : FuncId} (hc : closedB l F D d k = true) : Ok P k [] [] (.ret (bl true)) [] := by
  unfold closedB at hc
  split at hc
  · rename_i v hv
    have e := SV.beq_eq hc
    subst e
    have := ((goB_good hm (tblOf_ok h) F D d).q _ _ _ _ hv).2
    simpa [SV.ug] using this
  · cases hc
end
end Go.Ab
