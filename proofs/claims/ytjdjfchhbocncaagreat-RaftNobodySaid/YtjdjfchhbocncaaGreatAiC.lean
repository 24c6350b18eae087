/- Operations, regions and code over abstract states: what they come to, and that they do. -/
import Derived.Test.YtjdjfchhbocncaaGreatAiK
import Derived.RangeFuncWrites
import Derived.OrdersIn
import Derived.TacticsIn
namespace Go.AI
set_option linter.unusedVariables false

/-- An iterator hands over data: of which kind, how many at most, and which in all. -/
structure ItC where
  dom : D → Prop
  S : List D → Prop
  N : Nat

/-- Data that fills one cell, as a value. -/
def D.val : D → Value
  | .bool b => .bool b
  | .int k n => .int k n
  | .str s => .string ⟨s.toArray⟩
  | .nilp => .pointer none
  | .nilfn => .nilFunc
  | .nilif => .nilIface
  | .nilmap => .map none
  | .nilsl => .slice none 0 0
  | .sl _ => Go.undef

/-- In which orders a region's operations may be carried out, as far as it matters: one that may come first, or several. -/
inductive Tr where
  | done
  | one (i : Nat) (t : Tr)
  | alt (i : Nat) (t r : Tr)
  | stop

/-- What is known of functions: what those tell that are given no object; which are given objects; what those make of them; which literals are data at once; where a variable of several cells is read at a place that is no numeral; what iterators hand over. -/
structure Tbl where
  c : Nat → List AV → Option AV
  k : Nat → Bool
  o : Nat → List AV → List AObj → Option (AV × List AObj)
  z : Nat → Nat → Bool
  s : Nat → Nat → Bool
  it : Nat → D → Option ItC
  a : Nat → Bool
  cv : Nat → Nat
  d : Nat → Option Tr
  r : Nat → Bool := fun _ => false
  x : Nat → Bool := fun _ => false
  q : Nat → Bool := fun _ => false
instance : CoeFun Tbl (fun _ => Nat → List AV → Option AV) := ⟨Tbl.c⟩

abbrev Env := Operand → AV

/-- Is a value of the type several cells? -/
def tyAgg (y : TY) : Bool :=
  match y.desc with
  | .struct _ => true
  | .array _ _ => true
  | _ => false

/-- A part of some cells. -/
def partA (y : TY) (cells : List AV) (off : Nat) : Option AV :=
  match tyAgg y with
  | true => match decide (off + y.size ≤ cells.length) with
    | true => some (.agg ((cells.drop off).take y.size))
    | false => none
  | false => match cells.drop off with
    | v :: _ => some v
    | [] => none

/-- Data that is loaded: no slice is known as such. -/
def liftD (x : D) : AV :=
  match x with
  | .nilsl => .nils
  | x => .d x
theorem RelV.liftD {w : World} {Wr : Nat → Prop} {ρ : Nat → Option (Nat × Nat)} {objs : List AObj} {x : D} {v : Value} (h : RelD w Wr x v) : RelV w Wr ρ objs (AI.liftD x) v := by
  cases x <;> first | exact .d _ _ h | (cases h; exact .nils)

def partD (y : TY) (cells : List D) (off : Nat) : Option AV :=
  match tyAgg y with
  | true => match decide (off + y.size ≤ cells.length) with
    | true => some (.agg (((cells.drop off).take y.size).map liftD))
    | false => none
  | false => match cells.drop off with
    | v :: _ => some (liftD v)
    | [] => none

def fieldOf (T : Nat → Option TY) (t f : Nat) : Option (Nat × TY) :=
  match T t with
  | some ⟨.struct fs, _, _, _⟩ => match fs[f]? with
    | some fd => match T fd.type with
      | some y => some (fd.offset, y)
      | none => none
    | none => none
  | _ => none

def fieldPtr (x : AV) (off : Nat) (y : TY) : Option AV :=
  match x with
  | .ptr id gen row col => if y.size = 0 then none else some (.ptr id gen row (col + off))
  | .rptr row j => if y.size = 0 then none else some (.rptr row (j + off))
  | _ => none

/-- What a load tells. -/
def loadA (y : TY) (a : AV) (objs : List AObj) : Option AV :=
  match a with
  | .ptr id gen row col => match objs[id]? with
    | some (.var cells g) => match decide (gen = g), row with
      | true, 0 => partA y cells col
      | _, _ => none
    | some (.arr rs n g) => match decide (n = 1) with
      | true => match tyAgg y with
        | true => if gen = g ∧ row + col + y.size ≤ rs.length then some (.ar (((rs.drop (row + col)).take y.size).map fun r => r.getD 0 .nilp)) else none
        | false => if gen = g ∧ row + col < rs.length then partD y (rs.getD (row + col) []) 0 else none
      | false => if gen = g ∧ row < rs.length then partD y (rs.getD row []) col else none
    | some (.map _ _) => none
    | some (.arv cells n g) => if gen = g ∧ row < (chunks n cells).length then partA y ((chunks n cells).getD row []) col else none
    | none => none
  | .rptr row j => partD y row j
  | _ => none

/-- A slice type's elements. -/
def elemT (T : Nat → Option TY) (t : Nat) : Option TY :=
  match T t with
  | some ⟨.slice e, _, _, _⟩ => T e
  | _ => none
def arrT (T : Nat → Option TY) (t : Nat) : Option (Nat × TY) :=
  match T t with
  | some ⟨.array n e, _, _, _⟩ => match T e with
    | some y => some (n, y)
    | none => none
  | _ => none

/-- The place of an element. -/
def elemA (T : Nat → Option TY) (t : Nat) (x : AV) (n : Int) (objs : List AObj) : Option AV :=
  match x with
  | .d (.sl rows) => match elemT T t with
    | some y => if (0 ≤ n ∧ n < rows.length) ∧ (rows.getD n.toNat []).length = y.size then some (.rptr (rows.getD n.toNat []) 0) else none
    | none => none
  | .win id off len gen => match elemT T t, objs[id]? with
    | some y, some o => if (gen = o.gen ∧ o.sz = y.size) ∧ 0 ≤ n ∧ n < len then some (.ptr id gen (off + n.toNat) 0) else none
    | _, _ => none
  | .ptr id gen row col => match arrT T t with
    | some (len, y) => match objs[id]? with
      | some (.arr _ sz g) => if (0 ≤ n ∧ n < len) ∧ gen = g ∧ sz = 1 ∧ y.size = 1 then some (.ptr id gen (row + col + n.toNat) 0) else none
      | some (.var _ _) => if 0 ≤ n ∧ n < len then some (.ptr id gen row (col + n.toNat * y.size)) else none
      | some (.map _ _) => none
      | some (.arv _ _ _) => none
      | none => none
    | none => none
  | .rptr row j => match arrT T t with
    | some (len, y) => if 0 ≤ n ∧ n < len then some (.rptr row (j + n.toNat * y.size)) else none
    | none => none
  | _ => none

/-- A bound of a slice, if it is said. -/
def boundA (e : Env) (d : Int) : Option Operand → Option Int
  | none => some d
  | some x => match e x with
    | .d (.int _ n) => some n
    | _ => none

def sliceA (T : Nat → Option TY) (t : Nat) (x : AV) (lo hi : Int) (objs : List AObj) : Option AV :=
  match x with
  | .d (.sl rows) => match elemT T t with
    | some y => if (0 ≤ lo ∧ lo ≤ hi ∧ hi ≤ rows.length) ∧ (rows = [] ∨ (rows.getD 0 []).length = y.size) then some (.d (.sl ((rows.take hi.toNat).drop lo.toNat))) else none
    | none => none
  | .d (.str s) => match T t with
    | some ⟨.string, _, _, _⟩ => if 0 ≤ lo ∧ lo ≤ hi ∧ hi ≤ s.length then some (.d (.str ((s.take hi.toNat).drop lo.toNat))) else none
    | _ => none
  | .win id off len gen => match elemT T t, objs[id]? with
    | some y, some o => if (gen = o.gen ∧ o.sz = y.size ∧ (gen ≠ 0 ∨ hi ≤ len)) ∧ 0 ≤ lo ∧ lo ≤ hi ∧ off + hi ≤ o.rows.length then some (.win id (off + lo.toNat) (hi.toNat - lo.toNat) gen) else none
    | _, _ => none
  | .nils => match elemT T t with
    | some _ => if 0 ≤ lo ∧ lo ≤ hi ∧ hi ≤ 0 then some .nils else none
    | none => none
  | _ => none

/-- A slice of an array variable. -/
def sliceP (T : Nat → Option TY) (t : Nat) (x : AV) (lo : Option Operand) (hi : Option Operand) (e : Env) (objs : List AObj) : Option AV :=
  match x, arrT T t with
  | .ptr id gen row col, some (n, y) => match boundA e 0 lo, boundA e n hi, objs[id]? with
    | some l, some h, some (.arr rs sz g) => if ((gen = g ∧ sz = 1 ∧ y.size = 1) ∧ g = 0 ∧ row + col + n ≤ rs.length) ∧ 0 ≤ l ∧ l ≤ h ∧ h ≤ n then some (.win id (row + col + l.toNat) (h.toNat - l.toNat) gen) else none
    | _, _, _ => none
  | _, _ => none

def lenA (x : AV) : Option Int :=
  match x with
  | .d (.sl rows) => some rows.length
  | .d (.str s) => some s.length
  | .win _ _ len _ => some len
  | .nils => some 0
  | _ => none

/-- Bytes as a slice of them, and back. -/
def bs (l : List UInt8) : D := .sl (l.map fun b => [.int .u8 (b.toNat : Int)])

def byteOf : List D → UInt8
  | [.int .u8 n] => UInt8.ofNat n.toNat
  | _ => 0
def isByte : List D → Bool
  | [.int .u8 _] => true
  | _ => false

def convA (T : Nat → Option TY) (src dst : Nat) (x : AV) : Option AV :=
  match T src, T dst with
  | some ys, some yd => match ys.desc, yd.desc, x with
    | .int _, .int k, .d (.int _ n) => some (.d (.int k (k.wrap n)))
    | .string, .string, .d (.str s) => some (.d (.str s))
    | _, _, _ => none
  | _, _ => none

/-- Values that fill one cell each. -/
def allCell : List AV → Bool
  | [] => true
  | v :: l => v.cell && allCell l

/-- The cells of a value of a type. -/
def toCells (y : TY) (v : AV) : Option (List AV) :=
  match tyAgg y with
  | true => match v with
    | .agg cs => match decide (cs.length = y.size) && allCell cs with
      | true => some cs
      | false => none
    | .ar ds => match decide (ds.length = y.size) with
      | true => some (ds.map .d)
      | false => none
    | _ => none
  | false => match v.cell && decide (y.size = 1) with
    | true => some [v]
    | false => none

def setR {α : Type} (l : List α) (o : Nat) (m : List α) : List α := l.take o ++ m ++ l.drop (o + m.length)

/-- A struct's or an array's cells as they are said in its text. -/
def buildA (pl : Nat → Option (Nat × TY)) (e : Env) : List (Nat × Operand) → List AV → Option (List AV)
  | [], cells => some cells
  | (i, x) :: l, cells => match pl i with
    | some (off, y) => match toCells y (e x) with
      | some cs => match decide (off + cs.length ≤ cells.length) with
        | true => buildA pl e l (setR cells off cs)
        | false => none
      | none => none
    | none => none

/-- The elements that are appended, or copied. -/
def srcA (v : AV) (objs : List AObj) : Option (List (List D)) :=
  match v with
  | .d (.sl rows) => some rows
  | .nils => some []
  | .d (.str s) => some (s.map fun b => [.int .u8 (b.toNat : Int)])
  | .win id off len gen => match objs[id]? with
    | some (.arr rs n g) => match decide (gen = g) with
      | true => some ((rs.drop off).take len)
      | false => none
    | _ => none
  | _ => none

/-- A text, and its bytes: the types. -/
def u8T (T : Nat → Option TY) (src dst : Nat) : Bool :=
  match T src, T dst with
  | some ⟨.string, _, _, _⟩, some ⟨.slice e, _, _, _⟩ => match T e with
    | some ⟨.int .u8, 1, _, _⟩ => true
    | _ => false
  | _, _ => false

def isByteD (l : List D) : Bool :=
  match l with
  | [.int .u8 _] => true
  | _ => false
def byteD (l : List D) : UInt8 :=
  match l with
  | [.int .u8 n] => UInt8.ofNat n.toNat
  | _ => 0
def allByte : List (List D) → Bool
  | [] => true
  | r :: l => isByteD r && allByte l

/-- Bytes as a text. -/
def strA (T : Nat → Option TY) (src dst : Nat) (x : AV) (objs : List AObj) : Option AV :=
  match u8T T dst src with
  | true => match x with
    | .d (.str _) => none
    | x => match srcA x objs with
      | some R => if allByte R = true then some (.d (.str (R.map byteD))) else none
      | none => none
  | false => none

/-- A map's elements' type, where its keys are texts. -/
def mapT (T : Nat → Option TY) (t : Nat) : Option TY :=
  match T t with
  | some ⟨.map k e, _, _, _⟩ => match T k with
    | some ⟨.string, _, _, _⟩ => T e
    | _ => none
  | _ => none

/-- What stands under a key. -/
def mapFind : List (List UInt8 × AV) → List UInt8 → Option AV
  | [], _ => none
  | x :: l, k => if x.1 = k then some x.2 else mapFind l k

/-- A map with something under a key. -/
def mapPut : List (List UInt8 × AV) → List UInt8 → AV → List (List UInt8 × AV)
  | [], k, v => [(k, v)]
  | x :: l, k, v => if x.1 = k then (k, v) :: l else x :: mapPut l k v

/-- What a look into a map tells. -/
def findA (ok : Bool) (z : AV) (r : Option AV) : AV :=
  match r with
  | some v => match ok with
    | true => .tup [v, .d (.bool true)]
    | false => v
  | none => match ok with
    | true => .tup [z, .d (.bool false)]
    | false => z

def lookA (y : TY) (x : AV) (k : AV) (ok : Bool) (objs : List AObj) : Option AV :=
  match k, y.zero, aggD y.desc with
  | .d (.str k), [z], false => match x with
    | .d .nilmap => some (findA ok z none)
    | .mp id gen => match objs[id]? with
      | some (.map l g) => match decide (gen = g) with
        | true => some (findA ok z (mapFind l k))
        | false => none
      | _ => none
    | _ => none
  | _, _, _ => none

/-- Are two cells alike? -/
def eqCell (y : TY) (a b : Option AV) : Option Bool :=
  match y.desc, a, b with
  | .bool, some (.d (.bool a)), some (.d (.bool b)) => some (a == b)
  | .int _, some (.d (.int k a)), some (.d (.int k' b)) => match decide (k = k') with
    | true => some (a == b)
    | false => none
  | .string, some (.d (.str a)), some (.d (.str b)) => some (a == b)
  | _, _, _ => none

/-- Are two structs alike? -/
def eqFs (T : Nat → Option TY) : List Field → List AV → List AV → Option Bool
  | [], _, _ => some true
  | f :: fs, xs, ys => match T f.type, decide (f.name = "_") with
    | some y, false => match eqCell y (partA y xs f.offset) (partA y ys f.offset), eqFs T fs xs ys with
      | some a, some b => some (a && b)
      | _, _ => none
    | _, _ => none

def aAggEq (T : Nat → Option TY) (tbl : Tbl) (t : Nat) (op : BinOp) (xs ys : List AV) : Option AV :=
  match T t, tbl.q t with
  | some ⟨.struct fs, _, _, _⟩, true => match eqFs T fs.toList xs ys with
    | some b => match op with
      | .eql => some (.d (.bool b))
      | .neq => some (.d (.bool (!b)))
      | _ => none
    | none => none
  | _, _ => none

/-- An operation's value, where it neither makes nor changes an object. -/
def aVal (T : Nat → Option TY) (tbl : Tbl) (op : Op) (e : Env) (objs : List AObj) : Option AV :=
  match op with
  | .move x => some (e x)
  | .assign x => some (e x)
  | .pick c a b => match e c with | .d (.bool t) => some (if t = true then e a else e b) | _ => none
  | .binOp op t x y _ => match e x, e y with
    | .d (.bool a), .d (.bool b) => aBoolEq T t op a b
    | .ptr _ _ _ _, .d .nilp => aNil T t op false
    | .d .nilp, .ptr _ _ _ _ => aNil T t op false
    | .d .nilp, .d .nilp => aNil T t op true
    | .agg xs, .agg ys => aAggEq T tbl t op xs ys
    | x, .nils => match nilSl y with
      | true => aNilS T t op x
      | false => none
    | x, y => aBin op x y
  | .unOp op _ x => aUn op (e x)
  | .convert src dst x => convA T src dst (e x)
  | .extract x i => match e x with | .tup vs => vs[i]? | _ => none
  | .nilCheck x => match e x with
    | .ptr a b c d => some (.ptr a b c d)
    | .rptr a b => some (.rptr a b)
    | .fn (.func f) cap => some (.fn (.func f) cap)
    | _ => none
  | .makeFunc fn first cap => match fn, first.toList with
    | .func f, [] => some (.fn (.func f) (cap.toList.map e))
    | _, _ => none
  | .build t parts => match T t with
    | some ⟨.struct fs, _, _, z⟩ => match fs.toList.all fun f => (T f.type).isSome with
      | true => match buildA (fun i => fieldOf T t i) e parts.toList z with
        | some cs => some (.agg cs)
        | none => none
      | false => none
    | some ⟨.array _ el, _, _, z⟩ => match T el with
      | some y => match buildA (fun i => some (i * y.size, y)) e parts.toList z with
        | some cs => some (.agg cs)
        | none => none
      | none => none
    | _ => none
  | .field t x f => match e x, fieldOf T t f with
    | .agg cs, some (off, y) => partA y cs off
    | _, _ => none
  | .index t x i => match e x, e i with
    | .d (.str s), .d (.int _ n) => match T t with
      | some ⟨.string, _, _, _⟩ => if 0 ≤ n ∧ n < s.length then some (.d (.int .u8 ((s.getD n.toNat 0).toNat : Int))) else none
      | _ => none
    | .agg cs, .d (.int _ n) => match arrT T t with
      | some (len, y) => if 0 ≤ n ∧ n < len then partA y cs (n.toNat * y.size) else none
      | none => none
    | .ar ds, .d (.int _ n) => match arrT T t with
      | some (len, y) => if (0 ≤ n ∧ n < len) ∧ tyAgg y = false ∧ y.size = 1 ∧ n.toNat < ds.length then some (.d (ds.getD n.toNat .nilp)) else none
      | none => none
    | _, _ => none
  | .fieldAddr t x f => match fieldOf T t f with
    | some (off, y) => fieldPtr (e x) off y
    | none => none
  | .indexAddr t x i => match e i with
    | .d (.int _ n) => elemA T t (e x) n objs
    | _ => none
  | .load t a => match T t with
    | some y => loadA y (e a) objs
    | none => none
  | .lookup t x k ok => match mapT T t with
    | some y => lookA y (e x) (e k) ok objs
    | none => none
  | .slice t x lo hi mx => match mx, lenA (e x) with
    | none, some len => match boundA e 0 lo, boundA e len hi with
      | some l, some h => sliceA T t (e x) l h objs
      | _, _ => none
    | none, none => sliceP T t (e x) lo hi e objs
    | _, _ => none
  | .call c => match c.callee with
    | .value f => match e f with
      | .fn (.func g) cap => tbl g (c.args.toList.map e ++ cap)
      | _ => none
    | .builtin .len => match c.args.toList, c.argTypes.toList with
      | [x], [t] => match T t with
        | some ⟨.array n _, _, _, _⟩ => some (.d (.int .i64 n))
        | some ⟨.slice _, _, _, _⟩ => match e x with
          | .d (.sl rows) => some (.d (.int .i64 rows.length))
          | .win _ _ len _ => some (.d (.int .i64 len))
          | .nils => some (.d (.int .i64 0))
          | _ => none
        | some ⟨.string, _, _, _⟩ => match e x with
          | .d (.str s) => some (.d (.int .i64 s.length))
          | _ => none
        | _ => none
      | _, _ => none
    | .builtin .max => match c.args.toList.map e with
      | [.d (.int k a), .d (.int k' b)] => if k = k' then some (.d (.int k (if b > a then b else a))) else none
      | _ => none
    | .builtin .min => match c.args.toList.map e with
      | [.d (.int k a), .d (.int k' b)] => if k = k' then some (.d (.int k (if b < a then b else a))) else none
      | _ => none
    | _ => none
  | _ => none

/-- Cells that are data. -/
def allD : List AV → Option (List D)
  | [] => some []
  | .d x :: l => match allD l with
    | some m => some (x :: m)
    | none => none
  | .nils :: l => match allD l with
    | some m => some (.nilsl :: m)
    | none => none
  | _ :: _ => none


/-- A slice's elements as they are said in its text. -/
def fillA (e : Env) (y : TY) : List (Nat × Operand) → List (List D) → Option (List (List D))
  | [], rows => some rows
  | (i, x) :: l, rows => match toCells y (e x) with
    | some cs => match allD cs with
      | some ds => match decide (i < rows.length) with
        | true => fillA e y l (rows.set i ds)
        | false => none
      | none => none
    | none => none

/-- What an append makes. -/
def appendA (y : TY) (s : AV) (R : List (List D)) (objs : List AObj) : Option (AV × List AObj) :=
  match s with
  | .nils => if (∀ r ∈ R, r.length = y.size) ∧ 0 < y.size ∧ 0 < y.bytes ∧ R.length * y.bytes ≤ 140737488355328 then some (.win objs.length 0 R.length 1, objs ++ [.arr R y.size 1]) else none
  | .win id off len gen => match objs[id]? with
    | some (.arr rs n g) => match decide (off + len = rs.length) with
      | true => if (∀ r ∈ R, r.length = y.size) ∧ 0 < y.size ∧ 0 < y.bytes ∧ (gen = g ∧ g ≠ 0) ∧ n = y.size ∧ (len + R.length) * y.bytes ≤ 140737488355328 then
          some (.win id 0 (len + R.length) (g + 1), objs.set id (.arr (rs.drop off ++ R) n (g + 1))) else none
      | false => if (∀ r ∈ R, r.length = y.size) ∧ 0 < y.size ∧ 0 < y.bytes ∧ (gen = g ∧ g ≠ 0) ∧ n = y.size ∧ off + len + R.length ≤ rs.length then
          some (.win id off (len + R.length) gen, objs.set id (.arr (setR rs (off + len) R) n g)) else none
    | _ => none
  | _ => none

def srcT (T : Nat → Option TY) (t : Nat) : Bool :=
  match T t with
  | some ⟨.slice _, _, _, _⟩ => true
  | some ⟨.string, _, _, _⟩ => true
  | _ => false

mutual
def AV.ids : AV → List Nat
  | .d _ => []
  | .rptr _ _ => []
  | .ar _ => []
  | .nils => []
  | .skip => []
  | .undef => []
  | .ub => []
  | .uc => []
  | .agg cs => idsL cs
  | .tup cs => idsL cs
  | .fn _ cs => idsL cs
  | .win id _ _ _ => [id]
  | .ptr id _ _ _ => [id]
  | .mp id _ => [id]
def idsL : List AV → List Nat
  | [] => []
  | v :: l => v.ids ++ idsL l
end

def addL (l : List Nat) : List Nat → List Nat
  | [] => l
  | x :: m => match inL l x with
    | true => addL l m
    | false => addL (l ++ [x]) m

def idsM : List (List UInt8 × AV) → List Nat
  | [] => []
  | (_, v) :: l => v.ids ++ idsM l

def objIds (objs : List AObj) : List Nat → List Nat
  | [] => []
  | id :: l => match objs[id]? with
    | some (.var cells _) => idsL cells ++ objIds objs l
    | some (.map m _) => idsM m ++ objIds objs l
    | some (.arv cells _ _) => idsL cells ++ objIds objs l
    | _ => objIds objs l

/-- The objects that some objects come to. -/
def reachN (objs : List AObj) : Nat → List Nat → List Nat
  | 0, l => l
  | n + 1, l => reachN objs n (addL l (objIds objs l))

/-- A call. -/
def callO (tbl : Tbl) (g : Nat) (args : List AV) (objs : List AObj) : Option (AV × List AObj) :=
  match tbl.k g with
  | true => match locOk objs (reachN objs objs.length (addL [] (idsL args))) && allIdL (inL (reachN objs objs.length (addL [] (idsL args)))) args with
    | true => match tbl.o g (renL (idx (reachN objs objs.length (addL [] (idsL args)))) args) (locO objs (reachN objs objs.length (addL [] (idsL args)))) with
      | some (r, ol) => some (r.ren (backN objs.length (reachN objs objs.length (addL [] (idsL args)))), backO objs (reachN objs objs.length (addL [] (idsL args))) ol)
      | none => none
    | false => none
  | false => match tbl.c g args with
    | some r => some (r, objs)
    | none => none

/-! ### Values that name no object -/

mutual
def AV.closed : AV → Bool
  | .d _ => true
  | .rptr _ _ => true
  | .ar _ => true
  | .nils => true
  | .skip => true
  | .undef => true
  | .ub => true
  | .uc => true
  | .agg cs => closedL cs
  | .tup cs => closedL cs
  | .fn _ cs => closedL cs
  | .win .. => false
  | .ptr .. => false
  | .mp .. => false
def closedL : List AV → Bool
  | [] => true
  | v :: l => v.closed && closedL l
end

/-! ### The same objects -/

def sameD (x y : D) : Bool :=
  match x, y with
  | .bool a, .bool b => a == b
  | .int k n, .int j m => k == j && n == m
  | .str a, .str b => a == b
  | .nilp, .nilp => true
  | .nilfn, .nilfn => true
  | .nilif, .nilif => true
  | .nilmap, .nilmap => true
  | .nilsl, .nilsl => true
  | .sl [], .sl [] => true
  | _, _ => false
def sameL {α : Type} (f : α → α → Bool) : List α → List α → Bool
  | [], [] => true
  | x :: l, y :: m => f x y && sameL f l m
  | _, _ => false
def sameV (x y : AV) : Bool :=
  match x, y with
  | .d a, .d b => sameD a b
  | .win a b c g, .win a' b' c' g' => a == a' && b == b' && c == c' && g == g'
  | .ptr a b c g, .ptr a' b' c' g' => a == a' && b == b' && c == c' && g == g'
  | .mp a b, .mp a' b' => a == a' && b == b'
  | .nils, .nils => true
  | _, _ => false
def sameO (x y : AObj) : Bool :=
  match x, y with
  | .var a g, .var b h => sameL sameV a b && g == h
  | .arr a n g, .arr b m h => sameL (sameL sameD) a b && n == m && g == h
  | .arv a n g, .arv b m h => sameL sameV a b && n == m && g == h
  | _, _ => false

theorem sameL_eq {α : Type} {f : α → α → Bool} (hf : ∀ x y, f x y = true → x = y) : ∀ {l m : List α}, sameL f l m = true → l = m
  | [], [], _ => rfl
  | [], _ :: _, h => by cases h
  | _ :: _, [], h => by cases h
  | x :: l, y :: m, h => by
    simp only [sameL, Bool.and_eq_true] at h
    rw [hf x y h.1, sameL_eq hf h.2]
theorem sameD_eq {x y : D} (h : sameD x y = true) : x = y := by
  unfold sameD at h
  split at h <;> first | rfl | (simp only [Bool.and_eq_true, beq_iff_eq] at h; first | (obtain ⟨rfl, rfl⟩ := h; rfl) | (subst h; rfl)) | cases h
theorem sameV_eq {x y : AV} (h : sameV x y = true) : x = y := by
  unfold sameV at h
  split at h <;> first | rfl | (exact congrArg AV.d (sameD_eq h)) | (simp only [Bool.and_eq_true, beq_iff_eq] at h; first | (obtain ⟨⟨⟨rfl, rfl⟩, rfl⟩, rfl⟩ := h; rfl) | (obtain ⟨rfl, rfl⟩ := h; rfl)) | cases h
theorem sameO_eq {x y : AObj} (h : sameO x y = true) : x = y := by
  unfold sameO at h
  split at h
  · simp only [Bool.and_eq_true, beq_iff_eq] at h
    rw [sameL_eq (fun _ _ => sameV_eq) h.1, h.2]
  · simp only [Bool.and_eq_true, beq_iff_eq] at h
    rw [sameL_eq (fun _ _ => sameL_eq fun _ _ => sameD_eq) h.1.1, h.1.2, h.2]
  · simp only [Bool.and_eq_true, beq_iff_eq] at h
    rw [sameL_eq (fun _ _ => sameV_eq) h.1.1, h.1.2, h.2]
  · cases h

/-- A call of a function that only reads. -/
def isRead (tbl : Tbl) (f : Operand) : Bool :=
  match f with
  | .func f => match tbl.k f with
    | true => tbl.r f
    | false => false
  | _ => false

mutual
theorem ids_all {p : Nat → Bool} : ∀ (v : AV), v.allId p = true → ∀ x ∈ v.ids, p x = true
  | .d _, _, x, h => by simp [AV.ids] at h
  | .rptr _ _, _, x, h => by simp [AV.ids] at h
  | .ar _, _, x, h => by simp [AV.ids] at h
  | .nils, _, x, h => by simp [AV.ids] at h
  | .skip, _, x, h => by simp [AV.ids] at h
  | .undef, _, x, h => by simp [AV.ids] at h
  | .ub, _, x, h => by simp [AV.ids] at h
  | .uc, _, x, h => by simp [AV.ids] at h
  | .agg cs, h0, x, h => idsL_all cs (by simpa [AV.allId] using h0) x (by simpa [AV.ids] using h)
  | .tup cs, h0, x, h => idsL_all cs (by simpa [AV.allId] using h0) x (by simpa [AV.ids] using h)
  | .fn _ cs, h0, x, h => idsL_all cs (by simpa [AV.allId] using h0) x (by simpa [AV.ids] using h)
  | .win id _ _ _, h0, x, h => by simp [AV.ids] at h; subst h; simpa [AV.allId] using h0
  | .ptr id _ _ _, h0, x, h => by simp [AV.ids] at h; subst h; simpa [AV.allId] using h0
  | .mp id _, h0, x, h => by simp [AV.ids] at h; subst h; simpa [AV.allId] using h0
theorem idsL_all {p : Nat → Bool} : ∀ (l : List AV), allIdL p l = true → ∀ x ∈ idsL l, p x = true
  | [], _, x, h => by simp [idsL] at h
  | v :: l, h0, x, h => by
    simp only [allIdL, Bool.and_eq_true] at h0
    simp only [idsL, List.mem_append] at h
    rcases h with h | h
    · exact ids_all v h0.1 x h
    · exact idsL_all l h0.2 x h
end
theorem idsM_all {p : Nat → Bool} : ∀ (l : List (List UInt8 × AV)), allIdM p l = true → ∀ x ∈ idsM l, p x = true
  | [], _, x, h => by simp [idsM] at h
  | (_, v) :: l, h0, x, h => by
    simp only [allIdM, Bool.and_eq_true] at h0
    simp only [idsM, List.mem_append] at h
    rcases h with h | h
    · exact ids_all v h0.1 x h
    · exact idsM_all l h0.2 x h

mutual
theorem closed_ren (f : Nat → Nat) : ∀ (v : AV), (v.ren f).closed = v.closed
  | .d _ | .rptr _ _ | .ar _ | .nils | .skip | .undef | .ub | .uc | .win .. | .ptr .. | .mp .. => rfl
  | .agg cs => by simp only [AV.ren, AV.closed, closedL_ren f cs]
  | .tup cs => by simp only [AV.ren, AV.closed, closedL_ren f cs]
  | .fn _ cs => by simp only [AV.ren, AV.closed, closedL_ren f cs]
theorem closedL_ren (f : Nat → Nat) : ∀ (l : List AV), closedL (renL f l) = closedL l
  | [] => rfl
  | v :: l => by simp only [renL, closedL, closed_ren f v, closedL_ren f l]
end
mutual
theorem ids_ren (f : Nat → Nat) : ∀ (v : AV), (v.ren f).ids = v.ids.map f
  | .d _ | .rptr _ _ | .ar _ | .nils | .skip | .undef | .ub | .uc | .win .. | .ptr .. | .mp .. => rfl
  | .agg cs => by simp only [AV.ren, AV.ids, idsL_ren f cs]
  | .tup cs => by simp only [AV.ren, AV.ids, idsL_ren f cs]
  | .fn _ cs => by simp only [AV.ren, AV.ids, idsL_ren f cs]
theorem idsL_ren (f : Nat → Nat) : ∀ (l : List AV), idsL (renL f l) = (idsL l).map f
  | [] => rfl
  | v :: l => by simp only [renL, idsL, ids_ren f v, idsL_ren f l, List.map_append]
end
mutual
theorem ren_congr {f f' : Nat → Nat} : ∀ (v : AV), (∀ x ∈ v.ids, f x = f' x) → v.ren f = v.ren f'
  | .d _, _ => rfl
  | .rptr _ _, _ => rfl
  | .ar _, _ => rfl
  | .nils, _ => rfl
  | .skip, _ => rfl
  | .undef, _ => rfl
  | .ub, _ => rfl
  | .uc, _ => rfl
  | .win id _ _ _, h => by simp only [AV.ren]; rw [h id (by simp [AV.ids])]
  | .ptr id _ _ _, h => by simp only [AV.ren]; rw [h id (by simp [AV.ids])]
  | .mp id _, h => by simp only [AV.ren]; rw [h id (by simp [AV.ids])]
  | .agg cs, h => by simp only [AV.ren]; rw [renL_congr cs (by simpa [AV.ids] using h)]
  | .tup cs, h => by simp only [AV.ren]; rw [renL_congr cs (by simpa [AV.ids] using h)]
  | .fn _ cs, h => by simp only [AV.ren]; rw [renL_congr cs (by simpa [AV.ids] using h)]
theorem renL_congr {f f' : Nat → Nat} : ∀ (l : List AV), (∀ x ∈ idsL l, f x = f' x) → renL f l = renL f' l
  | [], _ => rfl
  | v :: l, h => by
    simp only [renL]
    rw [ren_congr v fun x hx => h x (by simp [idsL, hx]), renL_congr l fun x hx => h x (by simp [idsL, hx])]
end
mutual
theorem closed_ids : ∀ (v : AV), v.closed = true → v.ids = []
  | .d _, _ => rfl
  | .rptr _ _, _ => rfl
  | .ar _, _ => rfl
  | .nils, _ => rfl
  | .skip, _ => rfl
  | .undef, _ => rfl
  | .ub, _ => rfl
  | .uc, _ => rfl
  | .win .., h => by simp [AV.closed] at h
  | .ptr .., h => by simp [AV.closed] at h
  | .mp .., h => by simp [AV.closed] at h
  | .agg cs, h => by simp only [AV.ids]; exact closedL_ids cs (by simpa [AV.closed] using h)
  | .tup cs, h => by simp only [AV.ids]; exact closedL_ids cs (by simpa [AV.closed] using h)
  | .fn _ cs, h => by simp only [AV.ids]; exact closedL_ids cs (by simpa [AV.closed] using h)
theorem closedL_ids : ∀ (l : List AV), closedL l = true → idsL l = []
  | [], _ => rfl
  | v :: l, h => by
    simp only [closedL, Bool.and_eq_true] at h
    simp only [idsL, closed_ids v h.1, closedL_ids l h.2, List.append_nil]
end
theorem ren_closed {f f' : Nat → Nat} {v : AV} (h : v.closed = true) : v.ren f = v.ren f' := ren_congr v fun x hx => by rw [closed_ids v h] at hx; cases hx

mutual
theorem ren_id : ∀ (v : AV), v.ren (fun x => x) = v
  | .d _ | .rptr _ _ | .ar _ | .nils | .skip | .undef | .ub | .uc | .win .. | .ptr .. | .mp .. => rfl
  | .agg cs => by simp only [AV.ren, renL_id cs]
  | .tup cs => by simp only [AV.ren, renL_id cs]
  | .fn _ cs => by simp only [AV.ren, renL_id cs]
theorem renL_id : ∀ (l : List AV), renL (fun x => x) l = l
  | [] => rfl
  | v :: l => by simp only [renL, ren_id v, renL_id l]
end
mutual
theorem ren_ren (f g : Nat → Nat) : ∀ (v : AV), (v.ren f).ren g = v.ren (fun x => g (f x))
  | .d _ | .rptr _ _ | .ar _ | .nils | .skip | .undef | .ub | .uc | .win .. | .ptr .. | .mp .. => rfl
  | .agg cs => by simp only [AV.ren, renL_ren f g cs]
  | .tup cs => by simp only [AV.ren, renL_ren f g cs]
  | .fn _ cs => by simp only [AV.ren, renL_ren f g cs]
theorem renL_ren (f g : Nat → Nat) : ∀ (l : List AV), renL g (renL f l) = renL (fun x => g (f x)) l
  | [] => rfl
  | v :: l => by simp only [renL, ren_ren f g v, renL_ren f g l]
end
theorem ren_same {f : Nat → Nat} {p : Nat → Bool} {v : AV} (h : v.allId p = true) (hp : ∀ x, p x = true → f x = x) : v.ren f = v :=
  (ren_congr v fun x hx => hp x (ids_all v h x hx)).trans (ren_id v)
theorem obj_back {f g : Nat → Nat} {p : Nat → Bool} {o : AObj} (h : o.allId p = true) (hp : ∀ x, p x = true → g (f x) = x) : (o.ren f).ren g = o := by
  cases o with
  | var cells k =>
    have : renL g (renL f cells) = cells := by
      rw [renL_ren]
      exact (renL_congr cells fun x hx => hp x (idsL_all cells h x hx)).trans (renL_id cells)
    simp only [AObj.ren, this]
  | arr rs n k => rfl
  | map l k =>
    have key : ∀ (l : List (List UInt8 × AV)), allIdM p l = true → renM g (renM f l) = l := by
      intro l
      induction l with
      | nil => intro _; rfl
      | cons y l ih =>
        obtain ⟨q, v⟩ := y
        intro h
        simp only [allIdM, Bool.and_eq_true] at h
        simp only [renM, ren_ren, ih h.2, ren_same (f := fun x => g (f x)) h.1 hp]
    simp only [AObj.ren, key l h]
  | arv cells n k =>
    have : renL g (renL f cells) = cells := by
      rw [renL_ren]
      exact (renL_congr cells fun x hx => hp x (idsL_all cells h x hx)).trans (renL_id cells)
    simp only [AObj.ren, this]

theorem back_loc {objs : List AObj} {L : List Nat} (h : locOk objs L = true) : backO objs L (locO objs L) = objs := by
  have hlen : (locO objs L).length = L.length := by simp [locO]
  have hA : ∀ (l : List AObj) (i : Nat), (∀ k, k < l.length → objs[i + k]? = l[k]?) → backA (backN objs.length L) L (locO objs L) i l = l := by
    intro l
    induction l with
    | nil => intro i _; rfl
    | cons o l ih =>
      intro i hi
      have h1 := ih (i + 1) (fun k hk => by have := hi (k + 1) (by simpa using hk); simpa [Nat.add_assoc, Nat.add_comm 1 k] using this)
      simp only [backA, h1]
      cases hin : inL L i with
      | false => rfl
      | true =>
        obtain ⟨o2, h2, h3, h4⟩ := locOk_spec h (inL_iff.1 hin)
        have h5 := hi 0 (by simp)
        simp only [Nat.add_zero, List.getElem?_cons_zero] at h5
        rw [h2] at h5
        cases h5
        have h6 : (locO objs L).getD (idx L i) default = o.ren (idx L) := by simp [List.getD_eq_getElem?_getD, h4]
        simp only [h6]
        refine congrArg (fun z => z :: l) (obj_back h3 fun x hx => ?_)
        unfold backN
        rw [idx_get (inL_iff.1 hx)]
  unfold backO
  rw [hA objs 0 (fun k hk => by simp), ← hlen, List.drop_length]
  simp

def callS (b : Bool) (tbl : Tbl) (g : Nat) (args : List AV) (objs : List AObj) : Option (AV × List AObj) :=
  match b with
  | false => callO tbl g args objs
  | true => match tbl.k g with
    | true => match locOk objs (reachN objs objs.length (addL [] (idsL args))) && allIdL (inL (reachN objs objs.length (addL [] (idsL args)))) args with
      | true => match tbl.o g (renL (idx (reachN objs objs.length (addL [] (idsL args)))) args) (locO objs (reachN objs objs.length (addL [] (idsL args)))) with
        | some (r, ol) => match r.closed && sameL sameO ol (locO objs (reachN objs objs.length (addL [] (idsL args)))) with
          | true => some (r, objs)
          | false => none
        | none => none
      | false => none
    | false => match tbl.c g args with
      | some r => some (r, objs)
      | none => none

theorem callS_some {b : Bool} {tbl : Tbl} {g : Nat} {args : List AV} {objs : List AObj} {r : AV × List AObj} (h : callS b tbl g args objs = some r) : callO tbl g args objs = some r ∧ (b = true → r.2 = objs) := by
  unfold callS at h
  split at h
  · exact ⟨h, fun h => by cases h⟩
  · unfold callO
    split at h
    · rename_i hk
      (try rw [hk])
      (try simp only)
      split at h
      · rename_i hl
        (try rw [hl])
        (try simp only)
        split at h
        · rename_i v ol hol
          (try rw [hol])
          (try simp only)
          split at h
          · rename_i hs
            cases h
            simp only [Bool.and_eq_true] at hs hl
            have := sameL_eq (fun _ _ => sameO_eq) hs.2
            subst this
            rw [back_loc hl.1, ren_closed (f' := fun x => x) hs.1, ren_id]
            exact ⟨rfl, fun _ => rfl⟩
          · cases h
        · cases h
      · cases h
    · rename_i hk
      (try rw [hk])
      (try simp only)
      split at h
      · rename_i v hv
        cases h
        (try rw [hv])
        exact ⟨rfl, fun _ => rfl⟩
      · cases h

/-- A call of a function that makes new objects alone. -/
def isExt (tbl : Tbl) (f : Operand) : Bool :=
  match f with
  | .func f => match tbl.k f with
    | true => match tbl.r f with
      | true => false
      | false => tbl.x f
    | false => false
  | _ => false

theorem back_ext {objs : List AObj} {L : List Nat} (h : locOk objs L = true) (ex : List AObj) : backO objs L (locO objs L ++ ex) = objs ++ ex.map (AObj.ren (backN objs.length L)) := by
  have hlen : (locO objs L).length = L.length := by simp [locO]
  have h0 := back_loc h
  unfold backO at h0 ⊢
  rw [← hlen, List.drop_length, List.map_nil, List.append_nil] at h0
  have hd : (locO objs L ++ ex).drop L.length = ex := by rw [← hlen]; exact List.drop_left
  rw [hd]
  congr 1
  refine Eq.trans ?_ h0
  have hA : ∀ (l : List AObj) (i : Nat), backA (backN objs.length L) L (locO objs L ++ ex) i l = backA (backN objs.length L) L (locO objs L) i l := by
    intro l
    induction l with
    | nil => intro i; rfl
    | cons o l ih =>
      intro i
      simp only [backA, ih]
      cases hin : inL L i with
      | false => rfl
      | true =>
        have h1 := (List.getElem?_eq_some_iff.1 (idx_get (inL_iff.1 hin))).1
        have : (locO objs L ++ ex).getD (idx L i) default = (locO objs L).getD (idx L i) default := by
          simp only [List.getD_eq_getElem?_getD]
          rw [List.getElem?_append_left (by omega)]
        simp only [this]
  exact hA objs 0

def callE (tbl : Tbl) (g : Nat) (args : List AV) (objs : List AObj) : Option (AV × List AObj) :=
  match tbl.k g with
  | true => match locOk objs (reachN objs objs.length (addL [] (idsL args))) && allIdL (inL (reachN objs objs.length (addL [] (idsL args)))) args with
    | true => match tbl.o g (renL (idx (reachN objs objs.length (addL [] (idsL args)))) args) (locO objs (reachN objs objs.length (addL [] (idsL args)))) with
      | some (r, ol) => match sameL sameO (ol.take (reachN objs objs.length (addL [] (idsL args))).length) (locO objs (reachN objs objs.length (addL [] (idsL args)))) with
        | true => some (r.ren (backN objs.length (reachN objs objs.length (addL [] (idsL args)))), objs ++ (ol.drop (reachN objs objs.length (addL [] (idsL args))).length).map (AObj.ren (backN objs.length (reachN objs objs.length (addL [] (idsL args))))))
        | false => none
      | none => none
    | false => none
  | false => match tbl.c g args with
    | some r => some (r, objs)
    | none => none

theorem callE_some {tbl : Tbl} {g : Nat} {args : List AV} {objs : List AObj} {r : AV × List AObj} (h : callE tbl g args objs = some r) : callO tbl g args objs = some r ∧ ∃ news, r.2 = objs ++ news := by
  unfold callE at h
  unfold callO
  split at h
  · rename_i hk
    (try rw [hk])
    (try simp only)
    split at h
    · rename_i hl
      (try rw [hl])
      (try simp only)
      split at h
      · rename_i v ol hol
        (try rw [hol])
        (try simp only)
        split at h
        · rename_i hs
          cases h
          simp only [Bool.and_eq_true] at hl
          have hs := sameL_eq (fun _ _ => sameO_eq) hs
          generalize reachN objs objs.length (addL [] (idsL args)) = L at *
          have h1 : ol = locO objs L ++ ol.drop L.length := by rw [← hs, List.take_append_drop]
          refine ⟨?_, _, rfl⟩
          have h2 := back_ext hl.1 (ol.drop L.length)
          rw [← h1] at h2
          rw [h2]
        · cases h
      · cases h
    · cases h
  · rename_i hk
    (try rw [hk])
    (try simp only)
    split at h
    · rename_i v hv
      cases h
      (try rw [hv])
      exact ⟨rfl, [], by simp⟩
    · cases h

def callQ (tbl : Tbl) (f : Operand) (g : Nat) (args : List AV) (objs : List AObj) : Option (AV × List AObj) :=
  match isExt tbl f with
  | true => callE tbl g args objs
  | false => callS (isRead tbl f) tbl g args objs
theorem callQ_some {tbl : Tbl} {f : Operand} {g : Nat} {args : List AV} {objs : List AObj} {r : AV × List AObj} (h : callQ tbl f g args objs = some r) :
    callO tbl g args objs = some r ∧ (isRead tbl f = true → r.2 = objs) ∧ (isExt tbl f = true → ∃ news, r.2 = objs ++ news) := by
  unfold callQ at h
  split at h
  · rename_i hx
    obtain ⟨h1, h2⟩ := callE_some h
    refine ⟨h1, fun hr => ?_, fun _ => h2⟩
    cases f with
    | func f =>
      simp only [isExt] at hx
      simp only [isRead] at hr
      split at hx
      · rename_i hk
        simp only [hk] at hr
        simp only [hr] at hx
        cases hx
      · cases hx
    | tmp t => cases hx
    | const v => cases hx
    | global g => cases hx
  · rename_i hx
    obtain ⟨h1, h2⟩ := callS_some h
    exact ⟨h1, h2, fun h => by rw [hx] at h; cases h⟩

/-- An operation that makes or changes objects. -/
def aDo (T : Nat → Option TY) (tbl : Tbl) (op : Op) (e : Env) (objs : List AObj) : Option (AV × List AObj) :=
  match op with
  | .box el x => match e x with
    | .ar ds => some (.ptr objs.length 0 0 0, objs ++ [.arr (ds.map fun d => [d]) 1 0])
    | v => match T el with
      | some y => match toCells y v with
        | some cs => match tbl.a el with
          | true => match allD cs with
            | some ds => some (.ptr objs.length 0 0 0, objs ++ [.arr (ds.map fun d => [d]) 1 0])
            | none => none
          | false => some (.ptr objs.length 0 0 0, objs ++ [.var cs 0])
        | none => none
      | none => none
  | .alloc el => match T el with
    | some y => match tbl.a el with
      | true => match allD y.zero with
        | some ds => some (.ptr objs.length 0 0 0, objs ++ [.arr (ds.map fun d => [d]) 1 0])
        | none => none
      | false => some (.ptr objs.length 0 0 0, objs ++ [.var y.zero 0])
    | none => none
  | .store t a x => match T t, e a with
    | some y, .ptr id gen row col => match e x with
     | .ar ds => match objs[id]? with
      | some (.arr rs n g) => if (n = 1 ∧ gen = g) ∧ ds.length = y.size ∧ row + col + ds.length ≤ rs.length then some (.skip, objs.set id (.arr (setR rs (row + col) (ds.map fun d => [d])) n g)) else none
      | _ => none
     | v => match toCells y v, objs[id]? with
      | some cs, some (.var cells g) => match decide (gen = g), row, decide (col + cs.length ≤ cells.length) with
        | true, 0, true => some (.skip, objs.set id (.var (setR cells col cs) g))
        | _, _, _ => none
      | some cs, some (.arr rs n g) => match allD cs with
        | some ds => match decide (n = 1) with
          | true => match ds with
            | [d] => if gen = g ∧ row + col < rs.length then some (.skip, objs.set id (.arr (rs.set (row + col) [d]) n g)) else none
            | ds => if gen = g ∧ row + col + ds.length ≤ rs.length then some (.skip, objs.set id (.arr (setR rs (row + col) (ds.map fun d => [d])) n g)) else none
          | false => if gen = g ∧ row < rs.length ∧ col + ds.length ≤ n then some (.skip, objs.set id (.arr (rs.set row (setR (rs.getD row []) col ds)) n g)) else none
        | none => none
      | _, _ => none
    | _, _ => none
  | .buildSlice t len parts => match elemT T t with
    | some y => match allD y.zero, decide (len * y.size ≤ 2 ^ 24) with
      | some z, true => match fillA e y parts.toList (List.replicate len z) with
        | some rows => match tbl.z t len with
          | true => match decide (0 < y.size) with
            | true => some (.d (.sl rows), objs)
            | false => none
          | false => some (.win objs.length 0 len 1, objs ++ [.arr rows y.size 1])
        | none => match tbl.z t len with
          | true => none
          | false => match buildA (fun i => some (i * y.size, y)) e parts.toList ((List.replicate len y.zero).flatten), decide (0 < y.size) with
            | some cs, true => some (.win objs.length 0 len 1, objs ++ [.arv cs y.size 1])
            | _, _ => none
      | _, _ => none
    | none => none
  | .convert src dst x => match tbl.cv src with
    | 1 => match strA T src dst (e x) objs with
      | some v => some (v, objs)
      | none => none
    | 2 => match e x, u8T T src dst with
      | .d (.str s), true => some (.d (bs s), objs)
      | _, _ => none
    | 3 => match e x, u8T T src dst with
      | .d (.str s), true => some (.win objs.length 0 s.length 1, objs ++ [.arr (s.map fun b => [.int .u8 (b.toNat : Int)]) 1 1])
      | _, _ => none
    | _ => none
  | .makeMap t r => match r with
    | none => some (.mp objs.length 1, objs ++ [.map [] 1])
    | some _ => none
  | .mapUpdate t m k v => match mapT T t, e m, e k with
    | some _, .mp id gen, .d (.str k) => match objs[id]? with
      | some (.map l g) => match decide (gen = g) with
        | true => some (.skip, objs.set id (.map (mapPut l k (e v)) g))
        | false => none
      | _ => none
    | _, _, _ => none
  | .makeSlice t l c => match elemT T t, e l, e c with
    | some y, .d (.int .i64 l), .d (.int .i64 c) => match allD y.zero with
      | some z => if 0 ≤ l ∧ l ≤ c ∧ c * y.bytes ≤ 140737488355328 ∧ c < 9223372036854775808 then some (.win objs.length 0 l.toNat 1, objs ++ [.arr (List.replicate l.toNat z) y.size 1]) else none
      | none => none
    | _, _, _ => none
  | .call c => match c.callee with
    | .value f => match e f with
      | .fn (.func g) cap => callQ tbl f g (c.args.toList.map e ++ cap) objs
      | _ => none
    | .builtin .append => match c.args.toList, c.argTypes.toList with
      | [s, x], [t, u] => match elemT T t, srcA (e x) objs, srcT T u with
        | some y, some R, true => appendA y (e s) R objs
        | _, _, _ => none
      | _, _ => none
    | .builtin .copy => match c.args.toList, c.argTypes.toList with
      | [s, x], [t, _] => match elemT T t, srcA (e x) objs, e s with
        | some y, some R, .win id off len gen => match objs[id]? with
          | some (.arr rs n g) => if (∀ r ∈ R, r.length = y.size) ∧ 0 < y.size ∧ gen = g ∧ n = y.size ∧ off + len ≤ rs.length then
              some (.d (.int .i64 (min R.length len : Nat)), objs.set id (.arr (setR rs off (R.take len)) n g)) else none
          | _ => none
        | _, _, _ => none
      | _, _ => none
    | .builtin .clear => match c.args.toList, c.argTypes.toList with
      | [s], [t] => match elemT T t, e s with
        | some y, .win id off len gen => match allD y.zero, objs[id]? with
          | some z, some (.arr rs n g) => if (0 < y.size ∧ gen = g ∧ n = y.size) ∧ off + len ≤ rs.length then some (.tup [], objs.set id (.arr (setR rs off (List.replicate len z)) n g)) else none
          | _, _ => none
        | some _, .nils => some (.tup [], objs)
        | _, _ => none
      | _, _ => none
    | _ => none
  | _ => none

/-- 0: an operation that looks at no object; 1: one that changes none; 2: any other. -/
def opK (tbl : Tbl) : Op → Nat
  | .convert src _ _ => match tbl.cv src with
    | 1 => 1
    | 3 => 2
    | _ => 0
  | .move _ | .assign _ | .pick .. | .binOp .. | .unOp .. | .extract .. | .nilCheck _ | .makeFunc .. | .build .. | .field .. | .index .. | .fieldAddr .. => 0
  | .indexAddr .. | .load .. | .slice .. | .lookup .. => 1
  | .buildSlice t len _ => match tbl.z t len with
    | true => 0
    | false => 2
  | .call { callee := .value (.func f), .. } => match tbl.k f with
    | true => match tbl.r f with
      | true => 1
      | false => 2
    | false => 0
  | .call { callee := .builtin .len, .. } | .call { callee := .builtin .max, .. } | .call { callee := .builtin .min, .. } => 0
  | _ => 2

/-- A slice's literal makes no object where it is data at once; nor does a text as bytes. -/
def isBuild (tbl : Tbl) : Op → Bool
  | .buildSlice .. => true
  | .convert src _ _ => match tbl.cv src with
    | 0 => false
    | _ => true
  | .call { callee := .value f, .. } => isRead tbl f
  | _ => false

def aExec (T : Nat → Option TY) (tbl : Tbl) (op : Op) (e : Env) (objs : List AObj) : Option (AV × List AObj) :=
  if opK tbl op ≤ 1 ∧ isBuild tbl op = false then (aVal T tbl op e objs).map fun v => (v, objs) else aDo T tbl op e objs

def AS.res (σ : AS) (dst : Option Nat) (r : AV × List AObj) : AS := AS.puto ⟨σ.tmps, r.2⟩ dst r.1

def yieldOf (ops : Array Oper) (σ : AS) (j : Nat) : AV :=
  match (ops[j]?).bind (·.dst) with
  | some t => σ.get t
  | none => .undef

/-- What an operation tells, with its guard. -/
def astepR (T : Nat → Option TY) (tbl : Tbl) (ops : Array Oper) (o : Oper) (σ : AS) : Option (AV × List AObj) :=
  match o.guard with
  | none => aExec T tbl o.op σ.eval σ.objs
  | some (j, want) => match yieldOf ops σ j with
    | .d (.bool b) => if b = want then aExec T tbl o.op σ.eval σ.objs else some (.skip, σ.objs)
    | .skip => some (.skip, σ.objs)
    | _ => none

def astep (T : Nat → Option TY) (tbl : Tbl) (ops : Array Oper) (o : Oper) (σ : AS) : Option AS :=
  (astepR T tbl ops o σ).map (σ.res o.dst)

def asteps (T : Nat → Option TY) (tbl : Tbl) (ops : Array Oper) : List Oper → AS → Option AS
  | [], σ => some σ
  | o :: l, σ => (astep T tbl ops o σ).bind (asteps T tbl ops l)

theorem closed_get : ∀ {cs : List AV} (h : closedL cs = true) {i : Nat} (hi : i < cs.length), (cs.getD i .undef).closed = true := by
  intro cs
  induction cs with
  | nil => intro _ i hi; exact absurd hi (Nat.not_lt_zero i)
  | cons v l ih =>
    intro h i hi
    simp only [closedL, Bool.and_eq_true] at h
    cases i with
    | zero => simpa using h.1
    | succ i => simpa using ih h.2 (by simpa using hi)

/-- A value that names no object says the same whatever objects there are. -/
theorem RelV.lift {w : World} {Wr Wr' : Nat → Prop} {ρ ρ' : Nat → Option (Nat × Nat)} {objs objs' : List AObj} {x : AV} {v : Value} (h : RelV w Wr ρ objs x v)
    (hc : x.closed = true) (hw : ∀ b, b < w.heap.size → ¬ Wr b → ¬ Wr' b) : RelV w Wr' ρ' objs' x v := by
  induction h with
  | d x v h => exact .d x v (h.stay (fun _ _ _ => rfl) hw)
  | win => simp [AV.closed] at hc
  | ptr => simp [AV.closed] at hc
  | mp => simp [AV.closed] at hc
  | rptr row j b o vs h0 hb hcc hd => exact .rptr row j b o vs h0 (hw b (cell_lt (hcc 0 h0)) hb) hcc fun k hk => (hd k hk).stay (fun _ _ _ => rfl) hw
  | agg cells vs hl _ ih => exact .agg cells vs hl fun i hi => ih i hi (closed_get (by simpa [AV.closed] using hc) hi)
  | ar ds vs hl h => exact .ar ds vs hl fun i hi => (h i hi).stay (fun _ _ _ => rfl) hw
  | tup cells vs hl _ ih => exact .tup cells vs hl fun i hi => ih i hi (closed_get (by simpa [AV.closed] using hc) hi)
  | fn f cells vs hl _ ih => exact .fn f cells vs hl fun i hi => ih i hi (closed_get (by simpa [AV.closed] using hc) hi)
  | nils => exact .nils
  | skip => exact .skip
  | undef v => exact .undef v
  | ub b => exact .ub b
  | uc v h => exact .uc v h

theorem lift_of_nil {w : World} {Wr Wr' : Nat → Prop} {ρ ρ' : Nat → Option (Nat × Nat)} {objs' : List AObj} {x : AV} {v : Value} (h : RelV w Wr ρ [] x v)
    (hw : ∀ b, b < w.heap.size → ¬ Wr b → ¬ Wr' b) : RelV w Wr' ρ' objs' x v := by
  induction h with
  | d x v h => exact .d x v (h.stay (fun _ _ _ => rfl) hw)
  | win id off len gen v o ho => simp at ho
  | ptr id gen row col v o ho => simp at ho
  | mp id gen v o ho => simp at ho
  | rptr row j b o vs h0 hb hcc hd => exact .rptr row j b o vs h0 (hw b (cell_lt (hcc 0 h0)) hb) hcc fun k hk => (hd k hk).stay (fun _ _ _ => rfl) hw
  | agg cells vs hl _ ih => exact .agg cells vs hl ih
  | ar ds vs hl h => exact .ar ds vs hl fun i hi => (h i hi).stay (fun _ _ _ => rfl) hw
  | tup cells vs hl _ ih => exact .tup cells vs hl ih
  | fn f cells vs hl _ ih => exact .fn f cells vs hl ih
  | nils => exact .nils
  | skip => exact .skip
  | undef v => exact .undef v
  | ub b => exact .ub b
  | uc v h => exact .uc v h

/-- A function's contract: of arguments that name no object it makes a result that names none, and changes nothing of old. -/
def Fn0 (P : Program) (f : Nat) (args : List AV) (r : AV) : Prop :=
  ∀ (Am : Nat → Prop) (w : World) (cargs : Array Value), (∀ b, Am b → b < w.heap.size) → cargs.size = args.length →
    (∀ i, i < args.length → RelV w Am (fun _ => none) [] (args.getD i .undef) (cargs.getD i undef)) →
    Calls P f cargs w fun e w' => ∃ v, e = .returned v ∧ RelV w' Am (fun _ => none) [] r v ∧ Frm (fun _ => False) w w'

/-- A contract of a function that is given objects: of these it makes those, and no others change. -/
def FnO (P : Program) (f : Nat) (args : List AV) (objs : List AObj) (r : AV) (objs' : List AObj) : Prop :=
  ∀ (F : Fr) (ρ : Nat → Option (Nat × Nat)) (w : World) (cargs : Array Value), F.w0 = w → F.o0 = objs → F.r0 = ρ → RelH F ρ objs w → cargs.size = args.length →
    (∀ i, i < args.length → RelV w (Wrt F ρ objs) ρ objs (args.getD i .undef) (cargs.getD i undef)) →
    Calls P f cargs w fun e w' => ∃ v ρ', e = .returned v ∧ RelH F ρ' objs' w' ∧ RelV w' (Wrt F ρ' objs') ρ' objs' r v

/-- A fence that bars nothing. -/
structure Wide (Fe : Fence) : Prop where
  fn : ∀ f, Fe.fn f
  depth : Fe.depth = none
  calls : ∀ {n : Nat} {P : Program} {f : FuncId} {args : Array Value} {w : World} {R : Ending → World → Prop}, Calls P f args w R → CallsIn Fe n P f args w R

theorem wide_wide : Wide Fence.wide := ⟨fun _ => trivial, rfl, fun h => callsIn_wide.2 h⟩

/-- What lies at a place stays. -/
def KpC (p : Addr) (v : Value) (A B : World) : Prop := A.cell? p = some v → B.cell? p = some v

/-- An iterator keeps its contract: it is a closure over one variable, which nobody writes meanwhile. -/
structure ItOk (P : Program) (f : Nat) (x : D) (it : ItC) : Prop where
  enters : ∀ args w, (callFunc f args).run P w = .ok (.enter f args) w
  dom : ∀ r, it.dom r → ∀ (w : World) (Wr : Nat → Prop), RelD w Wr r r.val
  self : ∀ (w : World) (Wr : Nat → Prop) (v : Value), RelD w Wr x v → v = x.val
  seq : ∀ (Fe : Fence) (n : Nat) (w : World) (p : Addr), Wide Fe → Fe.round = none → 2 ≤ n → w.cell? p = some x.val →
    SeqStopsK Fe n P f #[.pointer (some p)] (fun r : {r : D // it.dom r} => #[r.1.val]) (KpC p x.val) (fun xs => it.S (xs.map (·.1))) (fun _ => True) it.N w

/-- The table tells nothing wrong: the function is entered, its arguments name no object, and it keeps its contract. -/
structure TblOk (P : Program) (tbl : Tbl) : Prop where
  c : ∀ f args r, tbl f args = some r → (∀ cargs w, (callFunc f cargs).run P w = .ok (.enter f cargs) w) ∧ (∀ i, i < args.length → (args.getD i .undef).closed = true) ∧ Fn0 P f args r
  o : ∀ f args objs r objs', tbl.o f args objs = some (r, objs') → (∀ cargs w, (callFunc f cargs).run P w = .ok (.enter f cargs) w) ∧ FnO P f args objs r objs'
  it : ∀ f x it, tbl.it f x = some it → ItOk P f x it
  q : ∀ t, tbl.q t = true → P.stoodInHeld t = false ∧ P.eqGuardType P.depth t = false

theorem Rel.puto {F : Fr} {ρ : Nat → Option (Nat × Nat)} {σ : AS} {a : Act} {w : World} (h : Rel F ρ σ a w) {dst : Option Nat} (hd : ∀ t, dst = some t → t < F.nt) {v : AV} {cv : Value}
    (hv : RelV w (Wrt F ρ σ.objs) ρ σ.objs v cv) : Rel F ρ (σ.puto dst v) (a.put dst cv) w := by
  cases dst with
  | none => exact h
  | some t =>
    have ht := hd t rfl
    refine ⟨by simp [Act.put, h.nt], h.ds, fun s => ?_, h.hp⟩
    show RelV w (Wrt F ρ σ.objs) ρ σ.objs (look ((t, v) :: σ.tmps) s) ((a.tmps.setIfInBounds t cv).getD s undef)
    by_cases e : t = s
    · subst e
      have : (a.tmps.setIfInBounds t cv).getD t undef = cv := by
        have : t < a.tmps.size := by rw [h.nt]; exact ht
        simp [Array.getD, this]
      simp only [look, if_true, this]
      exact hv
    · have : (a.tmps.setIfInBounds t cv).getD s undef = a.tmps.getD s undef := by
        simp [Array.getD_eq_getD_getElem?, Array.getElem?_setIfInBounds_ne e]
      simp only [look, if_neg e, this]
      exact h.tm s

/-- What a region's operation owes: it goes on, and the states agree again. -/
def OpOk (P : Program) (Fe : Fence) (n : Nat) (F : Fr) (o : Oper) (σ' : AS) (a : Act) (w : World) : Prop :=
  ∀ K Q, (∀ ρ' a' w', Rel F ρ' σ' a' w' → K a' w') → o.wpIn Fe n P a w K Q

theorem opOk_value {P : Program} {Fe : Fence} {n : Nat} (hFe : Wide Fe) {F : Fr} {ρ : Nat → Option (Nat × Nat)} {σ : AS} {a : Act} {w : World} (h : Rel F ρ σ a w) {o : Oper}
    (hd : ∀ t, o.dst = some t → t < F.nt) (hdef : ∀ c, o.op ≠ .defer c) {v : AV} {cv : Value} (hrun : (execOp a.eval o).run P w = .ok (.value cv) w) (hv : RelV w (Wrt F ρ σ.objs) ρ σ.objs v cv) :
    OpOk P Fe n F o (σ.puto o.dst v) a w := by
  intro K Q hK
  refine ⟨fun f _ => hFe.fn f, ?_⟩
  rw [Oper.semAt_eq _ _ _ hdef, hrun]
  exact hK ρ _ _ (h.puto hd hv)

end Go.AI
