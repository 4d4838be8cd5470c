/-
  Instructions without an effect on memory.
-/
import Derived.Test.YtffafdbipfadoaaAb3
set_option linter.all false
namespace Go.Ab

inductive BK where
  | i (k : IntKind)
  | sh (k yk : IntKind)
  | s
  | b
  | pnil (right : Bool)

inductive CK where
  | i (k : IntKind)
  | b
  | s
inductive I where
  | eqf (neg : Bool) (ks : List CK) (x y : Od)
  | mov (x : Od)
  | pick (c a b : Od)
  | bin (op : BinOp) (k : BK) (x y : Od)
  | neg (k : IntKind) (x : Od)
  | not (x : Od)
  | cvi (k : IntKind) (x : Od)
  | ld1 (p : Od)
  | ldn (n : Nat) (p : Od)
  | fa (off : Nat) (p : Od)
  | fld1 (off : Nat) (x : Od)
  | fldn (off n : Nat) (x : Od)
  | ia (sz : Nat) (s i : Od)
  | iap (len sz : Nat) (p i : Od)
  | ixs (s i : Od)
  | ixa (len sz : Nat) (one : Bool) (x i : Od)
  | sl (sz : Nat) (x : Od) (lo hi : Option Od)
  | sls (x : Od) (lo hi : Option Od)
  | ext (x : Od) (i : Nat)
  | len (x : Od)
  | lens (x : Od)
  | mm (mx : Bool) (k : IntKind) (x y : Od)
  | mkf (f : Fn) (first cap : List Od)
  | mki (t : TypeId) (x : Od)
  | nck (x : Od)
  | bld (z : List SV) (parts : List (Nat × Nat × Od))

/-- bits of two integers -/
def bitsI (op : BinOp) (k : IntKind) (x y : Int) : Int :=
  let a := BitVec.ofInt k.bits x
  let b := BitVec.ofInt k.bits y
  match op with
  | .and => k.wrap (a &&& b).toNat
  | .or => k.wrap (a ||| b).toNat
  | .xor => k.wrap (a ^^^ b).toNat
  | _ => k.wrap (a &&& ~~~b).toNat

def i64 (n : Int) : SV := .val (.int .i64 n)
def bl (b : Bool) : SV := .val (.bool b)
def st (s : ByteArray) : SV := .val (.string s)

def pbin (op : BinOp) (k : BK) (x y : SV) : Prop × SV :=
  match k with
  | .i k =>
    match op with
    | .add => (x.isI k = true ∧ y.isI k = true, .val (.int k (k.wrap (x.int + y.int))))
    | .sub => (x.isI k = true ∧ y.isI k = true, .val (.int k (k.wrap (x.int - y.int))))
    | .mul => (x.isI k = true ∧ y.isI k = true, .val (.int k (k.wrap (x.int * y.int))))
    | .quo => (x.isI k = true ∧ y.isI k = true ∧ y.int ≠ 0, .val (.int k (k.wrap (x.int.tdiv y.int))))
    | .rem => (x.isI k = true ∧ y.isI k = true ∧ y.int ≠ 0, .val (.int k (x.int.tmod y.int)))
    | .and => (x.isI k = true ∧ y.isI k = true, .val (.int k (bitsI .and k x.int y.int)))
    | .or => (x.isI k = true ∧ y.isI k = true, .val (.int k (bitsI .or k x.int y.int)))
    | .xor => (x.isI k = true ∧ y.isI k = true, .val (.int k (bitsI .xor k x.int y.int)))
    | .andNot => (x.isI k = true ∧ y.isI k = true, .val (.int k (bitsI .andNot k x.int y.int)))
    | .eql => (x.isI k = true ∧ y.isI k = true, bl (decide (x.int = y.int)))
    | .neq => (x.isI k = true ∧ y.isI k = true, bl (!decide (x.int = y.int)))
    | .lss => (x.isI k = true ∧ y.isI k = true, bl (decide (x.int < y.int)))
    | .leq => (x.isI k = true ∧ y.isI k = true, bl (decide (x.int ≤ y.int)))
    | .gtr => (x.isI k = true ∧ y.isI k = true, bl (decide (y.int < x.int)))
    | .geq => (x.isI k = true ∧ y.isI k = true, bl (decide (y.int ≤ x.int)))
    | _ => (False, .any)
  | .sh k yk =>
    match op with
    | .shl => (x.isI k = true ∧ y.isI yk = true ∧ 0 ≤ y.int, .val (.int k (k.wrap (x.int * 2 ^ (min y.int.toNat k.bits)))))
    | .shr => (x.isI k = true ∧ y.isI yk = true ∧ 0 ≤ y.int, .val (.int k (x.int.fdiv (2 ^ (min y.int.toNat k.bits)))))
    | _ => (False, .any)
  | .s =>
    match op with
    | .add => (x.isS = true ∧ y.isS = true ∧ x.str.size + y.str.size ≤ 9223372036854775807, st (x.str ++ y.str))
    | .eql => (x.isS = true ∧ y.isS = true, bl (decide (x.str.data.toList = y.str.data.toList)))
    | .neq => (x.isS = true ∧ y.isS = true, bl (!decide (x.str.data.toList = y.str.data.toList)))
    | .lss => (x.isS = true ∧ y.isS = true, bl (Op.bytesLess x.str.data.toList y.str.data.toList))
    | .gtr => (x.isS = true ∧ y.isS = true, bl (!(Op.bytesLess x.str.data.toList y.str.data.toList || decide (x.str.data.toList = y.str.data.toList))))
    | _ => (False, .any)
  | .b =>
    match op with
    | .eql => (x.isB = true ∧ y.isB = true, bl (x.bool == y.bool))
    | .neq => (x.isB = true ∧ y.isB = true, bl (x.bool != y.bool))
    | _ => (False, .any)
  | .pnil right =>
    let z := if right then x else y
    match op, z.ug with
    | .eql, .ptr _ _ => (z.vd = true, bl false)
    | .neq, .ptr _ _ => (z.vd = true, bl true)
    | .eql, .val (.pointer none) => (z.vd = true, bl true)
    | .neq, .val (.pointer none) => (z.vd = true, bl false)
    | _, _ => (False, .any)

/-- Two structs, field by field. -/
def eqSide : List CK → List SV → List SV → Prop
  | .i k :: r, x :: l, y :: m => (x.isI k = true ∧ y.isI k = true) ∧ eqSide r l m
  | .b :: r, x :: l, y :: m => (x.isB = true ∧ y.isB = true) ∧ eqSide r l m
  | .s :: r, x :: l, y :: m => (x.isS = true ∧ y.isS = true) ∧ eqSide r l m
  | [], [], [] => True
  | _, _, _ => False
def eqAll : List CK → List SV → List SV → Bool
  | .i _ :: r, x :: l, y :: m => decide (x.int = y.int) && eqAll r l m
  | .b :: r, x :: l, y :: m => (x.bool == y.bool) && eqAll r l m
  | .s :: r, x :: l, y :: m => decide (x.str.data.toList = y.str.data.toList) && eqAll r l m
  | _, _, _ => true
/-- lo and hi of a slice expression over n elements. -/
def loOf : Option SV → Nat
  | none => 0
  | some x => x.int.toNat
def hiOf (n : Nat) : Option SV → Nat
  | none => n
  | some x => x.int.toNat
def bdOf : Option SV → Prop
  | none => True
  | some x => x.isN = true ∧ 0 ≤ x.int
def SV.cut (sz l h : Nat) : SV → SV
  | .slc cs _ => .slc ((cs.drop (l * sz)).take ((h - l) * sz)) (h - l)
  | .own i off _ sz' ver => .own i (off + l * sz) (h - l) sz' ver
  | _ => .slc [] 0
def SV.szIs (sz : Nat) : SV → Bool
  | .own _ _ _ s _ => s == sz
  | _ => true
def SV.flat : SV → List SV
  | .agg l => l
  | x => [x]
def fillS (z : List SV) : List (Nat × SV) → List SV
  | [] => z
  | (off, v) :: r =>
    fillS (z.take off ++ v.ug.flat ++ z.drop (off + v.ug.flat.length)) r
/-- A part of a literal: it fills so many cells. -/
def partOk (size : Nat) (v : SV) : Prop :=
  match v.ug with
  | .agg l => l.length = size ∧ v.vd = true
  | x => size = 1 ∧ x.isCell = true ∧ v.vd = true

def pv (i : I) (g : Od → SV) (H : List AO) : Prop × SV :=
  match i with
  | .eqf neg ks x y =>
    match (g x).ug, (g y).ug with
    | .agg l, .agg m => ((g x).vd = true ∧ (g y).vd = true ∧ eqSide ks l m, bl (if neg then !eqAll ks l m else eqAll ks l m))
    | _, _ => (False, .any)
  | .mov x => (True, g x)
  | .pick c a b => ((g c).isB = true ∧ ((g c).bool = true → (g a).isB = true) ∧ ((g c).bool = false → (g b).isB = true), bl (cond (g c).bool (g a).bool (g b).bool))
  | .bin op k x y => pbin op k (g x) (g y)
  | .neg k x => ((g x).isI k = true, .val (.int k (k.wrap (0 - (g x).int))))
  | .not x => ((g x).isB = true, bl (!(g x).bool))
  | .cvi k x => ((g x).isN = true, .val (.int k (k.wrap (g x).int)))
  | .ld1 p => ((g p).vd = true ∧ 0 < ((g p).ug.at H).length, ((g p).ug.at H).headD .any)
  | .ldn n p => ((g p).vd = true ∧ n ≤ ((g p).ug.at H).length ∧ 0 < n, .agg (((g p).ug.at H).take n))
  | .fa off p =>
    match (g p).ug with
    | .ptr s k => ((g p).vd = true, .ptr s (k + off))
    | _ => (False, .any)
  | .fld1 off x =>
    match (g x).ug with
    | .agg l => ((g x).vd = true ∧ off < l.length, l.getD off .any)
    | _ => (False, .any)
  | .fldn off n x =>
    match (g x).ug with
    | .agg l => ((g x).vd = true ∧ off + n ≤ l.length, .agg ((l.drop off).take n))
    | _ => (False, .any)
  | .ia sz s j => ((g s).vd = true ∧ (g s).ug.isSl = true ∧ (g j).isN = true ∧ 0 ≤ (g j).int ∧ (g j).int < (g s).ug.slen, .ptr (g s).ug ((g j).int.toNat * sz))
  | .iap len sz p j =>
    match (g p).ug with
    | .ptr s k => ((g p).vd = true ∧ (g j).isN = true ∧ 0 ≤ (g j).int ∧ (g j).int < len, .ptr s (k + (g j).int.toNat * sz))
    | _ => (False, .any)
  | .ixs s j => ((g s).isS = true ∧ (g j).isN = true ∧ 0 ≤ (g j).int ∧ (g j).int < (g s).str.size, .val (.int .u8 ((g s).str.data.toList.getD (g j).int.toNat 0).toNat))
  | .ixa len sz one x j =>
    match (g x).ug with
    | .agg l => ((g x).vd = true ∧ (g j).isN = true ∧ 0 ≤ (g j).int ∧ (g j).int < len ∧ l.length = len * sz ∧ (one = true → sz = 1),
        if one then l.getD (g j).int.toNat .any else .agg ((l.drop ((g j).int.toNat * sz)).take sz))
    | _ => (False, .any)
  | .sl sz x lo hi =>
    let l := loOf (lo.map g)
    let h := hiOf (g x).ug.slen (hi.map g)
    (((g x).vd = true ∧ (g x).ug.isSl = true ∧ (g x).ug.szIs sz = true ∧ bdOf (lo.map g) ∧ bdOf (hi.map g) ∧ l ≤ h ∧ h ≤ (g x).ug.slen), (g x).ug.cut sz l h)
  | .sls x lo hi =>
    let l := loOf (lo.map g)
    let h := hiOf (g x).str.size (hi.map g)
    (((g x).isS = true ∧ bdOf (lo.map g) ∧ bdOf (hi.map g) ∧ l ≤ h ∧ h ≤ (g x).str.size), st ((g x).str.extract l h))
  | .ext x j =>
    match (g x).ug with
    | .tup l => ((g x).vd = true ∧ j < l.length, l.getD j .any)
    | _ => (False, .any)
  | .len x => ((g x).vd = true ∧ (g x).ug.isSl = true, i64 (g x).ug.slen)
  | .lens x => ((g x).isS = true, i64 (g x).str.size)
  | .mm mx k x y => ((g x).isI k = true ∧ (g y).isI k = true, .val (.int k (if mx then max (g x).int (g y).int else min (g x).int (g y).int)))
  | .mkf f first cap => (True, .fn f (first.map g) (cap.map g))
  | .mki t x => (True, .ifc t (g x))
  | .nck x =>
    match (g x).ug with
    | .ptr s k => ((g x).vd = true, .ptr s k)
    | .fn (.func f) a b => ((g x).vd = true, .fn (.func f) a b)
    | _ => (False, .any)
  | .bld z parts => (∀ p ∈ parts, partOk p.2.1 (g p.2.2) ∧ p.1 + p.2.1 ≤ z.length, .agg (fillS z (parts.map fun p => (p.1, g p.2.2))))

/-! The look at the program's tables -/
def oneB (P : Program) (t : TypeId) : Bool :=
  match P.underlying t with
  | some (.struct _) | some (.array _ _) => false
  | some _ => true
  | none => false
def aggB (P : Program) (t : TypeId) : Bool :=
  match P.underlying t with
  | some (.struct _) | some (.array _ _) => true
  | _ => false
def sizeB (P : Program) (t : TypeId) (n : Nat) : Bool := match P.info? t with | some i => i.size == n | none => false
def slB (P : Program) (t : TypeId) (sz : Nat) : Bool :=
  match P.underlying t with
  | some (.slice e) => sizeB P e sz
  | _ => false
def fieldB (P : Program) (s : TypeId) (f : Nat) (off size : Nat) : Bool :=
  match P.underlying s with
  | some (.struct fs) => match fs[f]? with
    | some fd => fd.offset == off && sizeB P fd.type size
    | none => false
  | _ => false
def fieldOneB (P : Program) (s : TypeId) (f : Nat) (one : Bool) : Bool :=
  match P.underlying s with
  | some (.struct fs) => match fs[f]? with
    | some fd => if one then oneB P fd.type else aggB P fd.type
    | none => false
  | _ => false
def chkOp : Option Operand → Option Od → Bool
  | none, none => true
  | some x, some y => chkOd x y
  | _, _ => false
def chkOds : List Operand → List Od → Bool
  | [], [] => true
  | x :: r, y :: s => chkOd x y && chkOds r s
  | _, _ => false
def boolTB (P : Program) (t : TypeId) : Bool := match P.underlying t with | some .bool => true | _ => false
def ptrTB (P : Program) (t : TypeId) : Bool := match P.underlying t with | some (.pointer _) => true | _ => false

def chkBin (P : Program) (op : BinOp) (t : TypeId) (x y : Operand) (k : BK) : Bool :=
  match k with
  | .i _ => match op with
    | .shl | .shr => false
    | _ => true
  | .sh _ _ => match op with
    | .shl | .shr => true
    | _ => false
  | .s => true
  | .b => boolTB P t && (op == .eql || op == .neq)
  | .pnil right => ptrTB P t && (op == .eql || op == .neq) && (match (if right then y else x) with | .const (.pointer none) => true | _ => false)

def constV (s : SV) (v : Value) : Bool := constB s v && s.isCell && (match s with | .val _ => true | _ => false)
def zeroB (P : Program) (t : TypeId) (z : List SV) : Bool :=
  match P.info? t with
  | some i => match i.zero with
    | some zv => zv.cells.toList.length == z.length && (z.zip zv.cells.toList).all fun p => constB p.1 p.2 && p.1.isCell
    | none => false
  | none => false
def structB (P : Program) (t : TypeId) : Bool :=
  match P.underlying t with
  | some (.struct fs) => fs.toList.all fun fd => (P.info? fd.type).isSome
  | some (.array _ e) => (P.info? e).isSome
  | _ => false
def partsB (P : Program) (t : TypeId) : List (Nat × Operand) → List (Nat × Nat × Od) → Bool
  | [], [] => true
  | (f, x) :: r, (off, size, y) :: s => chkOd x y &&
    (match P.underlying t with
     | some (.struct fs) => fieldB P t f off size
     | some (.array _ e) => off == f * size && sizeB P e size
     | _ => false) && partsB P t r s
  | _, _ => false

def ckB (P : Program) (t : TypeId) : CK → Bool
  | .i k => match P.underlying t with | some (.int k') => decide (k = k') | _ => false
  | .b => match P.underlying t with | some .bool => true | _ => false
  | .s => match P.underlying t with | some .string => true | _ => false
def flatB (P : Program) : List Field → List CK → Nat → Bool
  | [], [], _ => true
  | f :: r, k :: s, j => f.name != "_" && f.offset == j && ckB P f.type k && flatB P r s (j + 1)
  | _, _, _ => false
def flatT (P : Program) (t : TypeId) (ks : List CK) : Bool :=
  !P.stoodInHeld t && !P.eqGuardType P.depth t && (match P.underlying t with | some (.struct fs) => flatB P fs.toList ks 0 | _ => false)
def chkI (P : Program) (op : Op) (i : I) : Bool :=
  match i with
  | .eqf neg ks x' y' => match op with | .binOp op t x y _ => chkOd x x' && chkOd y y' && flatT P t ks && (if neg then op == .neq else op == .eql) | _ => false
  | .mov y => match op with | .move x | .assign x => chkOd x y | _ => false
  | .pick c' a' b' => match op with | .pick c a b => chkOd c c' && chkOd a a' && chkOd b b' | _ => false
  | .bin op' k x' y' => match op with | .binOp op t x y _ => op == op' && chkOd x x' && chkOd y y' && chkBin P op t x y k | _ => false
  | .neg _ x' => match op with | .unOp .neg _ x => chkOd x x' | _ => false
  | .not x' => match op with | .unOp .not _ x => chkOd x x' | _ => false
  | .cvi k x' => match op with | .convert s d x => chkOd x x' && (P.underlying s).isSome && (match P.underlying d with | some (.int k') => decide (k' = k) | _ => false) | _ => false
  | .ld1 p => match op with | .load t a => chkOd a p && oneB P t | _ => false
  | .ldn n p => match op with | .load t a => chkOd a p && aggB P t && sizeB P t n | _ => false
  | .fa off p => match op with | .fieldAddr s x f => chkOd x p && (match P.underlying s with | some (.struct fs) => (match fs[f]? with | some fd => fd.offset == off && (match P.info? fd.type with | some i => i.size != 0 | none => false) | none => false) | _ => false) | _ => false
  | .fld1 off x' => match op with | .field s x f => chkOd x x' && fieldB P s f off 1 && fieldOneB P s f true | _ => false
  | .fldn off n x' => match op with | .field s x f => chkOd x x' && fieldB P s f off n && fieldOneB P s f false | _ => false
  | .ia sz s j => match op with | .indexAddr t x ix => chkOd x s && chkOd ix j && slB P t sz | _ => false
  | .iap len sz p j => match op with | .indexAddr t x ix => chkOd x p && chkOd ix j && (match P.underlying t with | some (.array n e) => n == len && sizeB P e sz | _ => false) | _ => false
  | .ixs s j => match op with | .index t x ix => chkOd x s && chkOd ix j && (match P.underlying t with | some .string => true | _ => false) | _ => false
  | .ixa len sz one s j => match op with | .index t x ix => chkOd x s && chkOd ix j && (match P.underlying t with | some (.array n e) => n == len && sizeB P e sz && (if one then oneB P e else aggB P e) | _ => false) | _ => false
  | .sl sz x' lo' hi' => match op with | .slice t x lo hi none => chkOd x x' && chkOp lo lo' && chkOp hi hi' && slB P t sz | _ => false
  | .sls x' lo' hi' => match op with | .slice t x lo hi none => chkOd x x' && chkOp lo lo' && chkOp hi hi' && (match P.underlying t with | some .string => true | _ => false) | _ => false
  | .ext x' j => match op with | .extract x k => chkOd x x' && k == j | _ => false
  | .len x' => match op with
    | .call { callee := .builtin .len, args := as, argTypes := ts } => (match as.toList, ts.toList with | [x], [t] => chkOd x x' && (match P.underlying t with | some (.slice _) => true | _ => false) | _, _ => false)
    | _ => false
  | .lens x' => match op with
    | .call { callee := .builtin .len, args := as, argTypes := ts } => (match as.toList, ts.toList with | [x], [t] => chkOd x x' && (match P.underlying t with | some .string => true | _ => false) | _, _ => false)
    | _ => false
  | .mm mx _ x' y' => match op with
    | .call { callee := .builtin b, args := as, argTypes := _ } => (match as.toList with | [x, y] => chkOd x x' && chkOd y y' && (if mx then (b matches .max) else (b matches .min)) | _ => false)
    | _ => false
  | .mkf f first cap => match op with
    | .makeFunc f' a b => (match f', f with | .func x, .func y => x == y | _, _ => false) && chkOds a.toList first && chkOds b.toList cap
    | _ => false
  | .mki t x' => match op with | .makeInterface t' x => t' == t && chkOd x x' && (match P.underlying t with | some (.interface _) => false | some _ => true | none => false) | _ => false
  | .nck x' => match op with | .nilCheck x => chkOd x x' | _ => false
  | .bld z parts => match op with | .build t ps => zeroB P t z && structB P t && partsB P t ps.toList parts | _ => false

end Go.Ab
