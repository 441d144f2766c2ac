/- The abstract machine: what one operation does; no conditions. -/
import Derived.Test.YtlidmkmjemoaeaaGreatDoorAbsA
namespace Go.Abs

noncomputable section

inductive OpR where
  | val (v : AV)
  | mem (v : AV) (h : AHeap)
  | call (f : FuncId) (args : List AV)
  | yield (l : Nat) (args : List AV)
  | dfr (d : ADef)

def opnd (fr : Fr) : Operand → Option AV
  | .tmp t => fr.get t
  | .const v => AV.ofConst v
  | .func f => some (.func (.func f) [] [])
  | .global _ => none

def opnds (fr : Fr) : List Operand → Option (List AV)
  | [] => some []
  | x :: l => match opnd fr x with
    | some v => match opnds fr l with
      | some vs => some (v :: vs)
      | none => none
    | none => none

def vInt (k : IntKind) (n : Int) : Option OpR := fInt n fun n => some (.val (.int k n))
def vBool (b : Bool) : Option OpR := match b with
  | true => some (.val (.bool true))
  | false => some (.val (.bool false))
def vStr (s : List UInt8) : Option OpR := fList s fun s => some (.val (.str s))

def sizeA (E : Env) (t : TypeId) : Option Nat := match E.ti.get t with
  | some i => some i.size
  | none => none

/-! ### equality -/
def eqBytes : List UInt8 → List UInt8 → Bool
  | [], [] => true
  | a :: x, b :: y => match Nat.beq a.toNat b.toNat with
    | true => eqBytes x y
    | false => false
  | _, _ => false

/-- Are two values of one cell, both numbers, texts or bools, one? -/
def eqFlat : AV → AV → Option Bool
  | .int k a, .int j b => match decide (k = j) with
    | true => some (decide (a = b))
    | false => none
  | .bool a, .bool b => some (a == b)
  | .str a, .str b => some (eqBytes a b)
  | _, _ => none

def takeN (l : List AV) (o n : Nat) : Option (List AV) := match l, o, n with
  | _, 0, 0 => some []
  | v :: l, 0, n + 1 => match takeN l 0 n with
    | some r => some (v :: r)
    | none => none
  | _ :: l, o + 1, n => takeN l o n
  | _, _, _ => none

def partA (y : TInf) (cs : List AV) (off : Nat) : Option AV :=
  match y.agg with
  | true => match takeN cs off y.size with
    | some l => some (.agg l)
    | none => none
  | false => match takeN cs off 1 with
    | some (v :: _) => some v
    | _ => none

def partT (E : Env) (t : TypeId) (cs : List AV) (off : Nat) : Option AV := match E.ti.get t with
  | some y => partA y cs off
  | none => none

def eqNext (x : Option Bool) (k : Option Bool) : Option Bool := match x with
  | some true => k
  | some false => some false
  | none => none

/-- field by field -/
def eqFs (E : Env) (g : TypeId → AV → AV → Option Bool) (xs ys : List AV) : List Field → Option Bool
  | [] => some true
  | f :: l => match f.name == "_", partT E f.type xs f.offset, partT E f.type ys f.offset with
    | false, some a, some b => eqNext (g f.type a b) (eqFs E g xs ys l)
    | _, _, _ => none

/-- element by element -/
def eqEs (E : Env) (g : TypeId → AV → AV → Option Bool) (xs ys : List AV) (e : TypeId) (z : Nat) (i : Nat) : Nat → Option Bool
  | 0 => some true
  | n + 1 => match partT E e xs (i * z), partT E e ys (i * z) with
    | some a, some b => eqNext (g e a b) (eqEs E g xs ys e z (i + 1) n)
    | _, _ => none

/-- '==' of values that are made of numbers, texts and bools alone -/
def eqT (E : Env) : Nat → TypeId → AV → AV → Option Bool
  | 0, _, _, _ => none
  | n + 1, t, x, y => match E.ti.get t with
    | some i => match i.desc, x, y with
      | .bool, .bool a, .bool b => some (a == b)
      | .int _, .int k a, .int j b => match decide (k = j) with
        | true => some (decide (a = b))
        | false => none
      | .string, .str a, .str b => some (eqBytes a b)
      | .struct fs, .agg a, .agg b => match E.sh t with
        | false => eqFs E (eqT E n) a b fs.toList
        | true => none
      | .array m e, .agg a, .agg b => match sizeA E e with
        | some z => eqEs E (eqT E n) a b e z 0 m
        | none => none
      | _, _, _ => none
    | none => none

/-- A row that shares no bytes with a text. -/
def ownRow (h : AHeap) (b : Nat) : Bool := match h.get b with
  | some (.cells _ _ _ st _) => !st
  | _ => false

/-- '==' at a type. -/
def eqVal (E : Env) (h : AHeap) (t : TypeId) (x y : AV) : Option Bool :=
  match E.ti.get t with
  | some i => match i.desc, x, y with
    | .bool, .bool a, .bool b => some (a == b)
    | .pointer _, .nilPtr, .nilPtr => some true
    | .pointer _, .nilPtr, .ptr _ _ => some false
    | .pointer _, .ptr _ _, .nilPtr => some false
    | .pointer e, .ptr a o, .ptr b p => match sizeA E e with
      | some (_ + 1) => match Nat.beq a b with
        | true => some (Nat.beq o p)
        | false => match ownRow h a && ownRow h b with
          | true => some false
          | false => none
      | _ => none
    | .slice _, .nilSlice, .nilSlice => some true
    | .slice _, .nilSlice, .slice _ _ _ _ => some false
    | .slice _, .slice _ _ _ _, .nilSlice => some false
    | .slice _, .nilSlice, .slice0 _ => some false
    | .slice _, .slice0 _, .nilSlice => some false
    | .map _ _, .nilMap, .nilMap => some true
    | .map _ _, .nilMap, .map _ => some false
    | .map _ _, .map _, .nilMap => some false
    | .func _ _ _, .nilFunc, .nilFunc => some true
    | .func _ _ _, .func _ _ _, .nilFunc => some false
    | .func _ _ _, .nilFunc, .func _ _ _ => some false
    | .interface _, .iface _ _, .nilIface => some false
    | .interface _, .nilIface, .iface _ _ => some false
    | .struct _, .agg a, .agg b => match E.gt t with
      | false => eqT E 9 t (.agg a) (.agg b)
      | true => none
    | .array _ _, .agg a, .agg b => match E.gt t with
      | false => eqT E 9 t (.agg a) (.agg b)
      | true => none
    | _, _, _ => none
  | none => none

/-! ### arithmetic -/
def bitsI (op : BinOp) (k : IntKind) (x y : Int) : Option OpR :=
  let m : Int := 2 ^ k.bits
  let a := (x % m).toNat
  let b := (y % m).toNat
  match op with
  | .and => vInt k (k.wrap (Nat.land a b))
  | .or => vInt k (k.wrap (Nat.lor a b))
  | .xor => vInt k (k.wrap (Nat.xor a b))
  | _ => none

def arith (op : BinOp) (k : IntKind) (x y : Int) : Option OpR :=
  match op with
  | .add => vInt k (k.wrap (x + y))
  | .sub => vInt k (k.wrap (x - y))
  | .mul => vInt k (k.wrap (x * y))
  | .quo => match decide (y = 0) with
    | true => none
    | false => vInt k (k.wrap (x.tdiv y))
  | .rem => match decide (y = 0) with
    | true => none
    | false => vInt k (x.tmod y)
  | .eql => vBool (decide (x = y))
  | .neq => vBool (!decide (x = y))
  | .lss => vBool (decide (x < y))
  | .leq => vBool (decide (x ≤ y))
  | .gtr => vBool (decide (y < x))
  | .geq => vBool (decide (y ≤ x))
  | .and | .or | .xor => bitsI op k x y
  | _ => none

def shiftI (op : BinOp) (k : IntKind) (x y : Int) : Option OpR :=
  match decide (y < 0) with
  | true => none
  | false => match op with
    | .shl => vInt k (k.wrap (x * 2 ^ (min y.toNat k.bits)))
    | .shr => vInt k (x.fdiv (2 ^ (min y.toNat k.bits)))
    | _ => none

def isIface (E : Env) (t : TypeId) : Bool := match E.ti.get t with
  | some i => match i.desc with
    | .interface _ => true
    | _ => false
  | none => false

def binA (E : Env) (h : AHeap) (op : BinOp) (t : TypeId) (cst : Bool) (x y : AV) : Option OpR :=
  match x, y with
  | .int k a, .int j b => match op with
    | .shl | .shr => shiftI op k a b
    | _ => match decide (k = j) with
      | true => arith op k a b
      | false => none
  | .str a, .str b => match op with
    | .add => match Nat.ble (a.length + b.length) 1000000000 with
      | true => vStr (a ++ b)
      | false => none
    | .eql => vBool (eqBytes a b)
    | .neq => vBool (!eqBytes a b)
    | _ => none
  | .nilIface, .nilIface => match cst && isIface E t, op with
    | true, .eql => vBool true
    | true, .neq => vBool false
    | _, _ => none
  | x, y => match op with
    | .eql => match eqVal E h t x y with
      | some b => vBool b
      | none => none
    | .neq => match eqVal E h t x y with
      | some b => vBool (!b)
      | none => none
    | _ => none

def isCst : Operand → Bool
  | .const _ => true
  | _ => false

def unA (op : UnOp) (x : AV) : Option OpR :=
  match op, x with
  | .not, .bool b => vBool (!b)
  | .neg, .int k n => vInt k (k.wrap (0 - n))
  | .xor, .int k n => bitsI .xor k (if k.signed then -1 else k.max) n
  | _, _ => none

/-! ### memory -/
/-- n times the cells of a zero. -/
def zeros (z : List AV) : Nat → List AV
  | 0 => []
  | n + 1 => z ++ zeros z n

def allocA (E : Env) (h : AHeap) (t : TypeId) : Option OpR :=
  match E.ti.get t with
  | some i => match i.zero with
    | some z => some (.mem (.ptr h.next 0) (h.row t z false 0))
    | none => none
  | none => none

def boxA (h : AHeap) (t : TypeId) (v : AV) : Option OpR :=
  match allFlat v.cells with
  | true => some (.mem (.ptr h.next 0) (h.row t v.cells false 0))
  | false => none

/-- cells over others, from a place on -/
def overlay : List AV → Nat → List AV → Option (List AV)
  | cs, 0, l => over0 cs l
  | c :: cs, o + 1, l => match overlay cs o l with
    | some r => some (c :: r)
    | none => none
  | [], _ + 1, _ => none
where
  over0 : List AV → List AV → Option (List AV)
    | cs, [] => some cs
    | _ :: cs, v :: l => match over0 cs l with
      | some r => some (v :: r)
      | none => none
    | [], _ :: _ => none

def fillA (place : Nat → Option (Nat × Nat)) : List AV → List (Nat × AV) → Option (List AV)
  | cs, [] => some cs
  | cs, (i, v) :: l => match place i with
    | some (off, size) => match Nat.beq v.cells.length size with
      | true => match overlay cs off v.cells with
        | some cs' => fillA place cs' l
        | none => none
      | false => none
    | none => none

def nthField : List Field → Nat → Option Field
  | [], _ => none
  | f :: _, 0 => some f
  | _ :: l, n + 1 => nthField l n

def fieldOf (E : Env) (t : TypeId) (i : Nat) : Option (Nat × TInf) :=
  match E.ti.get t with
  | some x => match x.desc with
    | .struct fs => match nthField fs.toList i with
      | some f => match E.ti.get f.type with
        | some y => some (f.offset, y)
        | none => none
      | none => none
    | _ => none
  | none => none

/-- where the fields lie, and how many cells they have -/
def placesA (E : Env) : List Field → Option (List (Nat × Nat))
  | [] => some []
  | f :: l => match sizeA E f.type with
    | some s => match placesA E l with
      | some r => some ((f.offset, s) :: r)
      | none => none
    | none => none

def builtAgg (x : Option (List AV)) : Option OpR := match x with
  | some cs => some (.val (.agg cs))
  | none => none
def buildA (E : Env) (t : TypeId) (parts : List (Nat × AV)) : Option OpR :=
  match E.ti.get t with
  | some x => match x.zero with
    | some z => match x.desc with
      | .struct fs => match placesA E fs.toList with
        | some pl => builtAgg (fillA (fun i => pl[i]?) z parts)
        | none => none
      | .array _ e => match sizeA E e with
        | some s => builtAgg (fillA (fun i => some (i * s, s)) z parts)
        | none => none
      | _ => none
    | none => none
  | none => none

def elemA (E : Env) (t : TypeId) : Option (TypeId × TInf) :=
  match E.ti.get t with
  | some x => match x.desc with
    | .slice e => match E.ti.get e with
      | some y => some (e, y)
      | none => none
    | _ => none
  | none => none

def buildSliceA (E : Env) (h : AHeap) (t : TypeId) (len : Nat) (parts : List (Nat × AV)) : Option OpR :=
  match elemA E t with
  | some (e, y) => match y.zero with
    | some z => match Nat.beq z.length y.size, Nat.ble (len * y.size) 1000000 with
      | true, true => match fillA (fun i => some (i * y.size, y.size)) (zeros z len) parts with
        | some cs => match allFlat cs with
          | true => some (.mem (.slice h.next 0 len (some len)) (h.row e cs false 0))
          | false => none
        | none => none
      | _, _ => none
    | none => none
  | none => none

/-- a variable's value -/
def loadT (i : TInf) (h : AHeap) (b o : Nat) : Option AV :=
  match i.agg with
  | true => match h.load b o i.size with
    | some l => some (.agg l)
    | none => none
  | false => match h.load b o 1 with
    | some (v :: _) => some v
    | _ => none

def loadA (E : Env) (h : AHeap) (t : TypeId) (a : AV) : Option AV :=
  match a with
  | .ptr b o => match E.ti.get t with
    | some i => loadT i h b o
    | none => none
  | _ => none

def storeA (E : Env) (h : AHeap) (t : TypeId) (a v : AV) : Option AHeap :=
  match a with
  | .ptr b o => match sizeA E t with
    | some s => match Nat.beq v.cells.length s with
      | true => h.store b o v.cells
      | false => none
    | none => none
  | _ => none

def nilCheckA : AV → Option OpR
  | .nilPtr | .nilIface | .nilFunc => none
  | .func (.method _) _ _ => none
  | .opq _ => none
  | v => some (.val v)

def pickA (c : AV) (a b : Option AV) : Option OpR :=
  match c with
  | .bool true => match a with
    | some v => some (.val v)
    | none => none
  | .bool false => match b with
    | some v => some (.val v)
    | none => none
  | _ => none

def fieldAddrA (E : Env) (s : TypeId) (x : AV) (f : Nat) : Option OpR :=
  match x with
  | .ptr b o => match fieldOf E s f with
    | some (off, y) => match y.size with
      | 0 => none
      | _ + 1 => fNat (o + off) fun o => some (.val (.ptr b o))
    | none => none
  | _ => none

def fieldA (E : Env) (t : TypeId) (x : AV) (f : Nat) : Option OpR :=
  match x with
  | .agg cs => match fieldOf E t f with
    | some (off, y) => match partA y cs off with
      | some v => some (.val v)
      | none => none
    | none => none
  | _ => none

/-- an index that is within -/
def idx (i : AV) (n : Nat) : Option Nat := match i with
  | .int _ (.ofNat m) => match Nat.ble (m + 1) n with
    | true => some m
    | false => none
  | _ => none

def indexAddrA (E : Env) (t : TypeId) (x i : AV) : Option OpR :=
  match E.ti.get t with
  | some d => match d.desc, x with
    | .array n e, .ptr b o => match idx i n, sizeA E e with
      | some m, some s => fNat (o + m * s) fun o => some (.val (.ptr b o))
      | _, _ => none
    | .slice e, .slice b o len _ => match idx i len, sizeA E e with
      | some m, some s => fNat (o + m * s) fun o => some (.val (.ptr b o))
      | _, _ => none
    | _, _ => none
  | none => none

def nthByte : List UInt8 → Nat → Option UInt8
  | [], _ => none
  | b :: _, 0 => some b
  | _ :: l, n + 1 => nthByte l n

def indexA (E : Env) (t : TypeId) (x i : AV) : Option OpR :=
  match E.ti.get t with
  | some d => match d.desc, x with
    | .array n e, .agg cs => match idx i n, E.ti.get e with
      | some m, some y => match partA y cs (m * y.size) with
        | some v => some (.val v)
        | none => none
      | _, _ => none
    | .string, .str s => match i with
      | .int _ (.ofNat m) => match nthByte s m with
        | some b => vInt .u8 b.toNat
        | none => none
      | _ => none
    | _, _ => none
  | none => none

/-- a bound that is within -/
def bnd (x : Option AV) (dflt top : Nat) : Option Nat := match x with
  | none => some dflt
  | some (.int _ (.ofNat m)) => match Nat.ble m top with
    | true => some m
    | false => none
  | _ => none

/-- Are a row's elements of so many cells? -/
def rowEz (h : AHeap) (b z : Nat) : Bool := match h.get b with
  | some (.cells _ _ _ _ ez) => Nat.beq ez z
  | _ => false

/-- a part of a slice: its place moves, unless nothing can be in it -/
def cutX (b o z l h m : Nat) : Option OpR := match Nat.beq m l with
  | true => some (.val (.slice b o (h - l) (some (m - l))))
  | false => fNat (o + l * z) fun o => fNat (h - l) fun n => fNat (m - l) fun c => some (.val (.slice b o n (some c)))

def sliceX (b o z len cap : Nat) (lo hi mx : Option AV) : Option OpR := match mx.isSome && hi.isNone, bnd mx cap cap with
  | false, some m => match bnd hi len m with
    | some h => match bnd lo 0 h with
      | some l => cutX b o z l h m
      | none => none
    | none => none
  | _, _ => none

def sliceN (h : AHeap) (b o z len : Nat) (lo hi : Option AV) : Option OpR := match rowEz h b z, bnd hi len len with
  | true, some h => match bnd lo 0 h with
    | some l => match Nat.ble (l + 1) len with
      | true => fNat (o + l * z) fun o => fNat (h - l) fun n => some (.val (.slice b o n none))
      | false => some (.val (.slice0 b))
    | none => none
  | _, _ => none

def slice0A (b : Nat) (lo hi : Option AV) : Option OpR := match bnd hi 0 0 with
  | some h => match bnd lo 0 h with
    | some _ => some (.val (.slice0 b))
    | none => none
  | none => none

def sliceStr (s : List UInt8) (lo hi : Option AV) : Option OpR := match bnd hi s.length s.length with
  | some h => match bnd lo 0 h with
    | some l => vStr ((s.drop l).take (h - l))
    | none => none
  | none => none

def sliceV (E : Env) (h : AHeap) (e : TypeId) (x : AV) (lo hi mx : Option AV) : Option OpR := match sizeA E e with
  | some z => match x with
    | .slice b o len (some cap) => sliceX b o z len cap lo hi mx
    | .slice b o len none => match mx with
      | none => sliceN h b o z len lo hi
      | some m => match rowEz h b z with
        | true => sliceX b o z len len lo hi (some m)
        | false => none
    | .slice0 b => match mx, rowEz h b z with
      | none, true => slice0A b lo hi
      | _, _ => none
    | .nilSlice => match bnd hi 0 0 with
      | some h => match bnd lo 0 h, mx with
        | some _, none => some (.val .nilSlice)
        | _, _ => none
      | none => none
    | _ => none
  | none => none

def sliceA (E : Env) (h : AHeap) (t : TypeId) (x : AV) (lo hi mx : Option AV) : Option OpR :=
  match E.ti.get t with
  | some d => match d.desc with
    | .string => match x, mx with
      | .str s, none => sliceStr s lo hi
      | _, _ => none
    | .slice e => sliceV E h e x lo hi mx
    | .array n e => match x, sizeA E e, mx with
      | .ptr b o, some z, none => sliceX b o z n n lo hi none
      | _, _, _ => none
    | _ => none
  | none => none

def makeSliceA (E : Env) (h : AHeap) (t : TypeId) (len cap : AV) : Option OpR :=
  match elemA E t, len, cap with
  | some (e, y), .int _ (.ofNat l), .int _ (.ofNat c) => match y.zero with
    | some z => match Nat.ble l c, Nat.ble c 100000, Nat.ble y.bytes 100000, Nat.beq z.length y.size, allFlat z with
      | true, true, true, true, true => some (.mem (.slice h.next 0 l (some c)) (h.row e (zeros z c) false 0))
      | _, _, _, _, _ => none
    | none => none
  | _, _, _ => none

/-- bytes of cells -/
def bytesOf : List AV → Option (List UInt8)
  | [] => some []
  | .int .u8 n :: l => match bytesOf l with
    | some r => some (UInt8.ofNat n.toNat :: r)
    | none => none
  | _ :: _ => none

def cellsOfBytes : List UInt8 → List AV
  | [] => []
  | b :: l => fNat b.toNat fun n => .int .u8 (.ofNat n) :: cellsOfBytes l

def convA (E : Env) (h : AHeap) (src dst : TypeId) (x : AV) : Option OpR :=
  match E.ti.get src, E.ti.get dst with
  | some s, some d => match s.desc, d.desc, x with
    | _, .int k, .int _ n => vInt k (k.wrap n)
    | _, .string, .str s => some (.val (.str s))
    | .pointer t, .unsafePointer, .ptr b o => match E.ti.get t, h.load b o 1 with
      | some y, some _ => match Nat.ble 1 y.size with
        | true => some (.val (.ptr b o))
        | false => none
      | _, _ => none
    | .string, .slice e, .str s => match E.ti.get e with
      | some y => match y.desc with
        | .int .u8 => some (.mem (.slice h.next 0 s.length none) (h.row e (cellsOfBytes s) true 1))
        | _ => none
      | none => none
    | .slice e, .string, .nilSlice => match E.ti.get e with
      | some y => match y.desc with
        | .int .u8 => some (.val (.str []))
        | _ => none
      | none => none
    | .slice e, .string, .slice0 _ => match E.ti.get e with
      | some y => match y.desc with
        | .int .u8 => some (.val (.str []))
        | _ => none
      | none => none
    | .slice e, .string, .slice b o n _ => match E.ti.get e with
      | some y => match y.desc with
        | .int .u8 => match h.load b o n with
          | some l => match bytesOf l with
            | some s => vStr s
            | none => none
          | none => none
        | _ => none
      | none => none
    | _, _, _ => none
  | _, _ => none

def extractA (x : AV) (i : Nat) : Option OpR := match x with
  | .tuple l => match l[i]? with
    | some v => some (.val v)
    | none => none
  | _ => none

/-! ### maps -/
/-- where a key stands -/
def findE (E : Env) (t : TypeId) (k : AV) : List (AV × AV × Nat) → Nat → Option (Option (Nat × AV))
  | [], _ => some none
  | (k', v, _) :: l, i => match eqT E 9 t k k' with
    | some true => some (some (i, v))
    | some false => findE E t k l (i + 1)
    | none => none

def mapT (E : Env) (t : TypeId) : Option (TypeId × TypeId) := match E.ti.get t with
  | some x => match x.desc with
    | .map k e => some (k, e)
    | _ => none
  | none => none

/-- a key that fits its type, made of numbers, texts and bools alone -/
def keyF (E : Env) (g : TypeId → AV → Bool) (xs : List AV) : List Field → Bool
  | [] => true
  | f :: l => match f.name == "_", partT E f.type xs f.offset with
    | false, some a => match g f.type a with
      | true => keyF E g xs l
      | false => false
    | _, _ => false
def keyT (E : Env) : Nat → TypeId → AV → Bool
  | 0, _, _ => false
  | n + 1, t, x => match E.ti.get t with
    | some i => match i.desc, x with
      | .bool, .bool _ => true
      | .int _, .int _ _ => true
      | .string, .str _ => true
      | .struct fs, .agg a => keyF E (keyT E n) a fs.toList
      | _, _ => false
    | none => false
def keyOk (E : Env) (t : TypeId) (k : AV) : Bool := keyT E 9 t k

/-- a zero, as a value -/
def zeroV (y : TInf) : Option AV := match y.zero with
  | some z => match y.agg with
    | true => some (.agg z)
    | false => match z with
      | [v] => some v
      | _ => none
  | none => none
def okV (ok : Bool) (v : AV) (b : Bool) : AV := match ok with
  | true => .tuple [v, .bool b]
  | false => v
def lookZ (ok : Bool) (y : TInf) : Option AV := match zeroV y with
  | some v => some (okV ok v false)
  | none => none

def lookupA (E : Env) (h : AHeap) (t : TypeId) (x k : AV) (ok : Bool) : Option AV :=
  match mapT E t with
  | some (kt, et) => match keyOk E kt k, E.ti.get et with
    | true, some y => match x with
      | .nilMap => lookZ ok y
      | .map r => match h.get r with
        | some (.map es _) => match findE E kt k es 0 with
          | some (some (_, v)) => some (okV ok v true)
          | some none => lookZ ok y
          | none => none
        | _ => none
      | _ => none
    | _, _ => none
  | none => none

def setE (k v : AV) : List (AV × AV × Nat) → Nat → List (AV × AV × Nat)
  | [], _ => []
  | (_, _, b) :: l, 0 => (k, v, b) :: l
  | e :: l, i + 1 => e :: setE k v l i

def delE : List (AV × AV × Nat) → Nat → List (AV × AV × Nat)
  | [], _ => []
  | _ :: l, 0 => l
  | e :: l, i + 1 => e :: delE l i

/-- numbers, texts and bools that are one -/
def sameFlats : List AV → List AV → Bool
  | [], [] => true
  | a :: x, b :: y => match eqFlat a b with
    | some true => sameFlats x y
    | _ => false
  | _, _ => false
def sameKey : AV → AV → Bool
  | .agg a, .agg b => sameFlats a b
  | a, b => sameFlats [a] [b]

def keyAt : List (AV × AV × Nat) → Nat → Option AV
  | [], _ => none
  | (k, _, _) :: _, 0 => some k
  | _ :: l, i + 1 => keyAt l i

def putE (h : AHeap) (r : Nat) (es : List (AV × AV × Nat)) (clock : Nat) (k v : AV) (i : Nat) : Option AHeap := match keyAt es i with
  | some k' => match sameKey k' k with
    | true => some (h.put r (.map (setE k v es i) clock))
    | false => none
  | none => none

def mapUpdateA (E : Env) (h : AHeap) (t : TypeId) (x k v : AV) : Option AHeap :=
  match mapT E t, x with
  | some (kt, _), .map r => match keyOk E kt k, h.get r with
    | true, some (.map es clock) => match findE E kt k es 0 with
      | some (some (i, _)) => putE h r es clock k v i
      | some none => some (h.put r (.map (es ++ [(k, v, clock)]) (clock + 1)))
      | none => none
    | _, _ => none
  | _, _ => none

def deleteA (E : Env) (h : AHeap) (t : TypeId) (x k : AV) : Option AHeap :=
  match mapT E t, x with
  | some (kt, _), .nilMap => match keyOk E kt k with
    | true => some h
    | false => none
  | some (kt, _), .map r => match keyOk E kt k, h.get r with
    | true, some (.map es clock) => match findE E kt k es 0 with
      | some (some (i, _)) => some (h.put r (.map (delE es i) clock))
      | some none => some h
      | none => none
    | _, _ => none
  | _, _ => none

def rangeA (E : Env) (h : AHeap) (t : TypeId) (x : AV) : Option OpR :=
  match E.ti.get t with
  | some i => match i.desc, x with
    | .string, .str s => some (.mem (.ptr h.next 0) (h.new (.strIter s 0)))
    | .map _ _, .nilMap => some (.mem (.ptr h.next 0) (h.new (.mapIter none 0 [] 0)))
    | .map _ _, .map m => match h.get m with
      | some (.map _ clock) => some (.mem (.ptr h.next 0) (h.new (.mapIter (some m) clock [] clock)))
      | _ => none
    | _, _ => none
  | none => none

/-- entries of which none was seen -/
def unseen (seen : List Nat) : List (AV × AV × Nat) → List (AV × AV × Nat)
  | [] => []
  | (k, v, b) :: l => match seen.elem b with
    | true => unseen seen l
    | false => (k, v, b) :: unseen seen l

/-- Are all entries younger than the last step? -/
def allNew (last : Nat) : List (AV × AV × Nat) → Bool
  | [] => true
  | (_, _, b) :: l => Nat.ble last b && allNew last l

def nextM (h : AHeap) (r m since : Nat) (seen : List Nat) (last : Nat) (es : List (AV × AV × Nat)) (clock : Nat) : Option OpR :=
  match !seen.isEmpty && !es.isEmpty && allNew last es with
  | true => none
  | false => match unseen seen es with
    | [] => some (.val (.tuple [.bool false]))
    | [(k, v, b)] => match Nat.ble (b + 1) since with
      | true => some (.mem (.tuple [.bool true, k, v]) (h.put r (.mapIter (some m) since (seen ++ [b]) clock)))
      | false => none
    | _ => none

def nextA (h : AHeap) (it : AV) (isStr : Bool) : Option OpR :=
  match it, isStr with
  | .ptr r 0, false => match h.get r with
    | some (.mapIter none _ _ _) => some (.val (.tuple [.bool false]))
    | some (.mapIter (some m) since seen last) => match h.get m with
      | some (.map es clock) => nextM h r m since seen last es clock
      | _ => none
    | _ => none
  | _, _ => none

/-! ### append, copy and others -/
def firstA (h : AHeap) (z n : Nat) (x : AV) : Option (List AV) :=
  match x with
  | .nilSlice => some []
  | .slice0 _ => match n with
    | 0 => some []
    | _ + 1 => none
  | .slice b o _ _ => h.load b o (n * z)
  | .str s => match Nat.beq z 1 with
    | true => some (cellsOfBytes (s.take n))
    | false => none
  | _ => none

def lenA : AV → Option Nat
  | .nilSlice => some 0
  | .slice0 _ => some 0
  | .slice _ _ n _ => some n
  | .str s => some s.length
  | _ => none

/-- A row behind another one that is dead. -/
def growA (h : AHeap) (b : Nat) (e : TypeId) (z n : Nat) (l : List AV) : Option OpR := match h.get b with
  | some (.cells _ _ e' st ez) => match Nat.beq e e', Nat.beq ez z with
    | true, true => some (.mem (.slice h.next 0 n none) ((h.row e l st z).kill b))
    | _, _ => none
  | _ => none

def appendX (h : AHeap) (e : TypeId) (z b o len c n : Nat) (old new : List AV) : Option OpR := match Nat.ble (len + n) c with
  | true => match h.store b (o + len * z) new with
    | some h' => some (.mem (.slice b o (len + n) (some c)) h')
    | none => none
  | false => some (.mem (.slice h.next 0 (len + n) none) (h.row e (old ++ new) false z))

def appendV (h : AHeap) (e : TypeId) (z n : Nat) (s : AV) (new : List AV) : Option OpR := match s with
  | .nilSlice => match n with
    | 0 => some (.val .nilSlice)
    | n + 1 => some (.mem (.slice h.next 0 (n + 1) none) (h.row e new false z))
  | .slice b o len cap => match Nat.ble len 1000000, h.load b o (len * z) with
    | true, some old => match cap with
      | some c => appendX h e z b o len c n old new
      | none => match n with
        | 0 => some (.val (.slice b o len none))
        | n + 1 => growA h b e z (len + (n + 1)) (old ++ new)
    | _, _ => none
  | .slice0 b => match n with
    | 0 => some (.val (.slice0 b))
    | n + 1 => growA h b e z (n + 1) new
  | _ => none

def appendA (E : Env) (h : AHeap) (t : TypeId) (s x : AV) : Option OpR :=
  match elemA E t with
  | some (e, y) => match lenA x with
    | some n => match firstA h y.size n x, y.zero with
      | some new, some z => match Nat.ble 1 y.size && Nat.ble y.bytes 10000 && Nat.beq z.length y.size && allFlat z && Nat.ble n 1000000 with
        | true => appendV h e y.size n s new
        | false => none
      | _, _ => none
    | none => none
  | none => none

def copyA (E : Env) (h : AHeap) (t : TypeId) (d x : AV) : Option OpR :=
  match elemA E t with
  | some (_, y) => match lenA d, lenA x with
    | some m, some n =>
      let k := Nat.min n m
      match firstA h y.size k x with
      | some l => match d with
        | .nilSlice => some (.val (.int .i64 (.ofNat 0)))
        | .slice0 _ => some (.val (.int .i64 (.ofNat 0)))
        | .slice b o _ _ => match h.store b o l with
          | some h' => fNat k fun k => some (.mem (.int .i64 (.ofNat k)) h')
          | none => none
        | _ => none
      | none => none
    | _, _ => none
  | none => none

def lenB (E : Env) (h : AHeap) (t : TypeId) (x : AV) : Option AV :=
  match E.ti.get t with
  | some i => match i.desc, x with
    | .string, .str s => fNat s.length fun n => some (.int .i64 (.ofNat n))
    | .array n _, _ => some (.int .i64 (.ofNat n))
    | .slice _, .nilSlice => some (.int .i64 (.ofNat 0))
    | .slice _, .slice0 _ => some (.int .i64 (.ofNat 0))
    | .slice _, .slice _ _ n _ => some (.int .i64 (.ofNat n))
    | .map _ _, .nilMap => some (.int .i64 (.ofNat 0))
    | .map _ _, .map r => match h.get r with
      | some (.map es _) => fNat es.length fun n => some (.int .i64 (.ofNat n))
      | _ => none
    | _, _ => none
  | none => none

def mmGo (mx : Bool) (k : IntKind) (a : Int) : List AV → Option AV
  | [] => some (.int k a)
  | .int j b :: l => match decide (k = j) with
    | true => match mx with
      | true => mmGo mx k (if b > a then b else a) l
      | false => mmGo mx k (if b < a then b else a) l
    | false => none
  | _ :: _ => none

def minmax (mx : Bool) : List AV → Option AV
  | .int k a :: l => mmGo mx k a l
  | _ => none

def clearA (E : Env) (h : AHeap) (t : TypeId) (x : AV) : Option OpR :=
  match elemA E t with
  | some (_, y) => match x with
    | .nilSlice => some (.val (.tuple []))
    | .slice0 _ => some (.val (.tuple []))
    | .slice _ _ 0 _ => some (.val (.tuple []))
    | .slice b o (n + 1) _ => match y.zero with
      | some z => match Nat.beq z.length y.size, Nat.ble 1 y.size, h.store b o (zeros z (n + 1)) with
        | true, true, some h' => some (.mem (.tuple []) h')
        | _, _, _ => none
      | none => none
    | _ => none
  | none => none

def capA (E : Env) (t : TypeId) (x : AV) : Option OpR := match E.ti.get t with
  | some i => match i.desc, x with
    | .slice _, .nilSlice => some (.val (.int .i64 (.ofNat 0)))
    | .slice _, .slice _ _ _ (some c) => some (.val (.int .i64 (.ofNat c)))
    | _, _ => none
  | none => none

def builtinA (E : Env) (h : AHeap) (b : Builtin) (ts : List TypeId) (args : List AV) : Option OpR :=
  match b, ts, args with
  | .append, [t, u], [s, x] => match E.ti.get u with
    | some i => match i.desc with
      | .int _ => none
      | _ => appendA E h t s x
    | none => none
  | .append, [t], [s, x] => appendA E h t s x
  | .copy, t :: _, [d, x] => copyA E h t d x
  | .len, t :: _, [x] => match lenB E h t x with
    | some v => some (.val v)
    | none => none
  | .cap, t :: _, [x] => capA E t x
  | .clear, t :: _, [x] => clearA E h t x
  | .delete, t :: _, [m, k] => match deleteA E h t m k with
    | some h' => some (.mem (.tuple []) h')
    | none => none
  | _, _, _ => none

def typeAssertA (E : Env) (x : AV) (t : TypeId) (ok : Bool) : Option OpR :=
  match E.ti.get t with
  | some i => match i.desc with
    | .interface _ => none
    | _ => match x with
      | .iface u v => match Nat.beq u t with
        | true => some (.val (okV ok v true))
        | false => match ok, lookZ true i with
          | true, some z => some (.val z)
          | _, _ => none
      | .nilIface => match ok, lookZ true i with
        | true, some z => some (.val z)
        | _, _ => none
      | _ => none
  | none => none

def partsA (fr : Fr) : List (Nat × Operand) → Option (List (Nat × AV))
  | [] => some []
  | (i, x) :: l => match opnd fr x with
    | some v => match partsA fr l with
      | some vs => some ((i, v) :: vs)
      | none => none
    | none => none

def optA (fr : Fr) : Option Operand → Option (Option AV)
  | none => some none
  | some x => match opnd fr x with
    | some v => some (some v)
    | none => none

def callA (f : AV) (args : List AV) : Option OpR :=
  match f with
  | .func (.func f) first captured => some (.call f (first ++ args ++ captured))
  | .func (.yield l) [] [] => some (.yield l args)
  | _ => none


/-- What an extern does. -/
def extA (k : Ext) (l : List AV) (h : AHeap) : Option OpR := match k, l with
  | .mark0, [] => some (.val (.tuple []))
  | .mark1, [.ptr _ _] => some (.val (.tuple []))
  | .cas k, [.ptr b o, .int i x, .int j y] => match decide (k = i), decide (k = j), h.load b o 1 with
    | true, true, some [.int m z] => match decide (k = m), decide (z = x) with
      | true, true => match h.store b o [.int k y] with
        | some h' => some (.mem (.bool true) h')
        | none => none
      | true, false => match h.store b o [.int k z] with
        | some _ => some (.val (.bool false))
        | none => none
      | _, _ => none
    | _, _, _ => none
  | .add k, [.ptr b o, .int j y] => match decide (k = j), h.load b o 1 with
    | true, some [.int m z] => match decide (k = m) with
      | true => fInt (k.wrap (z + y)) fun s => match h.store b o [.int k s] with
        | some h' => some (.mem (.int k s) h')
        | none => none
      | false => none
    | _, _ => none
  | _, _ => none
def callX (E : Env) (h : AHeap) (f : AV) (l : List AV) : Option OpR := match callA f l with
  | some (.call g as) => match E.ex.get g with
    | some k => extA k as h
    | none => some (.call g as)
  | r => r

def oVal (x : Option AV) : Option OpR := match x with
  | some v => some (.val v)
  | none => none
def oMem (x : Option AHeap) : Option OpR := match x with
  | some h => some (.mem (.tuple []) h)
  | none => none
def o1 (x : Option AV) (f : AV → Option OpR) : Option OpR := match x with
  | some v => f v
  | none => none
def o2 (x y : Option AV) (f : AV → AV → Option OpR) : Option OpR := match x with
  | some v => match y with
    | some w => f v w
    | none => none
  | none => none
def oL (x : Option (List AV)) (f : List AV → Option OpR) : Option OpR := match x with
  | some l => f l
  | none => none
def oP (x : Option (List (Nat × AV))) (f : List (Nat × AV) → Option OpR) : Option OpR := match x with
  | some l => f l
  | none => none
def oO (x : Option (Option AV)) (f : Option AV → Option OpR) : Option OpR := match x with
  | some l => f l
  | none => none

def ifaceA (E : Env) (t : TypeId) (v : AV) : Option OpR := match E.ti.get t with
  | some i => match i.desc with
    | .interface _ => none
    | _ => some (.val (.iface t v))
  | none => none
def makeMapA (E : Env) (h : AHeap) (t : TypeId) (r : Option Operand) : Option OpR := match mapT E t with
  | some _ => match r with
    | none => some (.mem (.map h.next) (h.new (.map [] 0)))
    | some _ => none
  | none => none
def builtA (E : Env) (h : AHeap) (b : Builtin) (ts : Array TypeId) (l : List AV) : Option OpR := match b with
  | .max => oVal (minmax true l)
  | .min => oVal (minmax false l)
  | b => builtinA E h b ts.toList l
def callOpA (E : Env) (h : AHeap) (fr : Fr) (c : Call) : Option OpR := match c.callee with
  | .builtin b => oL (opnds fr c.args.toList) fun l => builtA E h b c.argTypes l
  | .value f => o1 (opnd fr f) fun f => oL (opnds fr c.args.toList) fun l => callX E h f l
  | .invoke _ _ => none
def dfrOf (f : AV) (l : List AV) : Option OpR := match f with
  | .func fn first captured => some (.dfr { fn := fn, captured := captured, args := first ++ l })
  | _ => none
def deferOpA (fr : Fr) (c : Call) : Option OpR := match c.callee with
  | .value f => o1 (opnd fr f) fun f => oL (opnds fr c.args.toList) fun l => dfrOf f l
  | _ => none

def mkFunc (fn : Fn) (a b : List AV) : Option OpR := match fn with
  | .yield _ => none
  | fn => some (.val (.func fn a b))

/-- What one operation does. -/
def opA (E : Env) (h : AHeap) (fr : Fr) (o : Op) : Option OpR :=
  match o with
  | .move x => oVal (opnd fr x)
  | .assign x => oVal (opnd fr x)
  | .pick c a b => o1 (opnd fr c) fun c => pickA c (opnd fr a) (opnd fr b)
  | .alloc t => allocA E h t
  | .box t x => o1 (opnd fr x) (boxA h t)
  | .build t ps => oP (partsA fr ps.toList) (buildA E t)
  | .buildSlice t n ps => oP (partsA fr ps.toList) (buildSliceA E h t n)
  | .load t a => o1 (opnd fr a) fun v => oVal (loadA E h t v)
  | .store t a x => o2 (opnd fr a) (opnd fr x) fun a v => oMem (storeA E h t a v)
  | .nilCheck x => o1 (opnd fr x) nilCheckA
  | .binOp op t x y _ => o2 (opnd fr x) (opnd fr y) (binA E h op t (isCst x || isCst y))
  | .unOp op _ x => o1 (opnd fr x) (unA op)
  | .convert s d x => o1 (opnd fr x) (convA E h s d)
  | .makeInterface t x => o1 (opnd fr x) (ifaceA E t)
  | .makeFunc fn first captured => oL (opnds fr first.toList) fun a => oL (opnds fr captured.toList) fun b => mkFunc fn a b
  | .makeMap t r => makeMapA E h t r
  | .makeSlice t l c => o2 (opnd fr l) (opnd fr c) (makeSliceA E h t)
  | .slice t x lo hi mx => o1 (opnd fr x) fun x => oO (optA fr lo) fun lo => oO (optA fr hi) fun hi => oO (optA fr mx) fun mx => sliceA E h t x lo hi mx
  | .fieldAddr s x f => o1 (opnd fr x) fun v => fieldAddrA E s v f
  | .field t x f => o1 (opnd fr x) fun v => fieldA E t v f
  | .indexAddr t x i => o2 (opnd fr x) (opnd fr i) (indexAddrA E t)
  | .index t x i => o2 (opnd fr x) (opnd fr i) (indexA E t)
  | .lookup t x k ok => o2 (opnd fr x) (opnd fr k) fun x k => oVal (lookupA E h t x k ok)
  | .mapUpdate t m k x => o2 (opnd fr m) (opnd fr k) fun m k => o1 (opnd fr x) fun x => oMem (mapUpdateA E h t m k x)
  | .range t x => o1 (opnd fr x) (rangeA E h t)
  | .next it s => o1 (opnd fr it) fun v => nextA h v s
  | .typeAssert x _ t ok => o1 (opnd fr x) fun v => typeAssertA E v t ok
  | .extract x i => o1 (opnd fr x) fun v => extractA v i
  | .call c => callOpA E h fr c
  | .defer c => deferOpA fr c
  | _ => none

end
end Go.Abs
