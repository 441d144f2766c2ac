/- The abstract machine: values, memory and operations of a Go program without capacities, draws or addresses; no conditions. -/
import GoSem.Step
namespace Go.Abs

/-! ### a tree keyed by numbers -/
inductive PT (α : Type) where
  | lf
  | nd (l : PT α) (v : Option α) (r : PT α)

def PT.getS {α : Type} (v : Option α) (gl gr : Nat → Option α) (k : Nat) : Option α :=
  Nat.casesOn (Nat.div k 2) v fun _ => Nat.casesOn (Nat.mod k 2) (gl (Nat.div k 2)) fun _ => gr (Nat.div k 2)

/-- at the key k - 1 -/
noncomputable def PT.get1 {α : Type} (t : PT α) : Nat → Option α :=
  PT.rec (fun _ => none) (fun _ v _ gl gr k => PT.getS v gl gr k) t

noncomputable def PT.get {α : Type} (t : PT α) (k : Nat) : Option α := PT.get1 t (Nat.add k 1)

def PT.updS {α : Type} (ih : PT α → Nat → PT α) (o : Option α) (l : PT α) (v : Option α) (r : PT α) (k : Nat) : PT α :=
  Nat.casesOn (Nat.div k 2) (.nd l o r) fun _ => Nat.casesOn (Nat.mod k 2) (.nd (ih l (Nat.div k 2)) v r) fun _ => .nd l v (ih r (Nat.div k 2))

noncomputable def PT.upd {α : Type} (o : Option α) (n : Nat) : PT α → Nat → PT α :=
  Nat.rec (fun t _ => t) (fun _ ih t k => PT.casesOn t (PT.updS ih o .lf none .lf k) fun l v r => PT.updS ih o l v r k) n

noncomputable def PT.set {α : Type} (t : PT α) (k : Nat) (v : α) : PT α := PT.upd (some v) (Nat.add k 1) t (Nat.add k 1)
noncomputable def PT.del {α : Type} (t : PT α) (k : Nat) : PT α := PT.upd none (Nat.add k 1) t (Nat.add k 1)

noncomputable def PT.ofList {α : Type} (t : PT α) (i : Nat) : List α → PT α
  | [] => t
  | x :: l => PT.ofList (t.set i x) (i + 1) l

/-! ### forcing -/
def fNat {α : Type} (n : Nat) (k : Nat → α) : α := match n with
  | 0 => k 0
  | m + 1 => k (m + 1)
theorem fNat_eq {α : Type} (n : Nat) (k : Nat → α) : fNat n k = k n := by cases n <;> rfl
def fInt {α : Type} (n : Int) (k : Int → α) : α := match n with
  | .ofNat m => fNat m fun m => k (.ofNat m)
  | .negSucc m => fNat m fun m => k (.negSucc m)
theorem fInt_eq {α : Type} (n : Int) (k : Int → α) : fInt n k = k n := by cases n <;> simp [fInt, fNat_eq]
def fList {α β : Type} : List α → (List α → β) → β
  | [], k => k []
  | a :: l, k => fList l fun l' => k (a :: l')
theorem fList_eq {α β : Type} : ∀ (l : List α) (k : List α → β), fList l k = k l
  | [], _ => rfl
  | a :: l, k => by simp [fList, fList_eq l]

/-! ### values -/
inductive AV where
  | int (k : IntKind) (n : Int)
  | bool (b : Bool)
  | str (s : List UInt8)
  | nilPtr
  | ptr (b o : Nat)
  | nilSlice
  | slice (b o len : Nat) (cap : Option Nat)
  | slice0 (b : Nat)
  | nilMap
  | map (r : Nat)
  | func (fn : Fn) (first captured : List AV)
  | nilFunc
  | iface (t : TypeId) (v : AV)
  | nilIface
  | agg (l : List AV)
  | tuple (l : List AV)
  | opq (i : Nat)
  deriving Inhabited

def AV.cells : AV → List AV
  | .agg l => l
  | v => [v]

/-- A constant. -/
def AV.ofConst : Value → Option AV
  | .int k n => some (.int k n)
  | .bool b => some (.bool b)
  | .string s => some (.str s.data.toList)
  | .pointer none => some .nilPtr
  | .slice none 0 0 => some .nilSlice
  | .map none => some .nilMap
  | .nilFunc => some .nilFunc
  | .nilIface => some .nilIface
  | _ => none

/-- Cells of a constant: the cells of a zero value. -/
def AV.ofCells : List Value → Option (List AV)
  | [] => some []
  | v :: l => match AV.ofConst v, AV.ofCells l with
    | some a, some as => some (a :: as)
    | _, _ => none

/-- A value of one cell. -/
def AV.flat : AV → Bool
  | .agg _ | .tuple _ => false
  | _ => true

/-! ### frames: the slots below a bound in a tree, the others in a list that may be dropped -/
inductive TL where
  | nil
  | cons (k : Nat) (v : AV) (r : TL)

noncomputable def TL.get (l : TL) (t : Nat) : Option AV :=
  TL.rec none (fun k v _ ih => Bool.casesOn (Nat.beq k t) ih (some v)) l

inductive Fr where
  | mk (nb : Nat) (tm : TL) (lo : PT AV)

noncomputable def Fr.get (f : Fr) (t : Nat) : Option AV :=
  Fr.casesOn f fun nb tm lo => Bool.casesOn (Nat.ble nb t) (lo.get t) (tm.get t)
noncomputable def Fr.set (f : Fr) (t : Nat) (v : AV) : Fr :=
  Fr.casesOn f fun nb tm lo => Bool.casesOn (Nat.ble nb t) (.mk nb tm (lo.set t v)) (.mk nb (.cons t v tm) lo)
noncomputable def Fr.drop (f : Fr) : Fr := Fr.casesOn f fun nb _ lo => .mk nb .nil lo

/-! ### memory -/
structure ADef where
  fn : Fn
  captured : List AV
  args : List AV

inductive AObj where
  | cells (t : PT AV) (n : Nat) (elem : TypeId) (st : Bool) (ez : Nat)
  | map (es : List (AV × AV × Nat)) (clock : Nat)
  | mapIter (m : Option Nat) (since : Nat) (seen : List Nat) (stepped : Nat)
  | strIter (s : List UInt8) (pos : Nat)
  | loop (st : LoopState) (pending : Option Code) (fn : FuncId) (tmps : Fr) (params : Array Tmp) (assign body : Code) (defers : Nat)
  | deferred (calls : Option (List ADef))

structure AHeap where
  t : PT AObj
  next : Nat

noncomputable def AHeap.get (h : AHeap) (b : Nat) : Option AObj := h.t.get b
noncomputable def AHeap.put (h : AHeap) (b : Nat) (o : AObj) : AHeap := { h with t := h.t.set b o }
noncomputable def AHeap.kill (h : AHeap) (b : Nat) : AHeap := { h with t := h.t.del b }
noncomputable def AHeap.new (h : AHeap) (o : AObj) : AHeap := { t := h.t.set h.next o, next := h.next + 1 }

/-- n cells of a row from a place on. -/
noncomputable def getCells (t : PT AV) (o : Nat) : Nat → Option (List AV)
  | 0 => some []
  | n + 1 => match t.get o with
    | some v => match getCells t (o + 1) n with
      | some l => some (v :: l)
      | none => none
    | none => none

/-- cells into a row; each place is there, each value of one cell. -/
noncomputable def setCells (n : Nat) (t : PT AV) (o : Nat) : List AV → Option (PT AV)
  | [] => some t
  | v :: l => match Nat.ble (o + 1) n, v.flat with
    | true, true => setCells n (t.set o v) (o + 1) l
    | _, _ => none

noncomputable def AHeap.load (h : AHeap) (b o n : Nat) : Option (List AV) :=
  match h.get b with
  | some (.cells t _ _ _ _) => getCells t o n
  | _ => none

noncomputable def AHeap.store (h : AHeap) (b o : Nat) (l : List AV) : Option AHeap :=
  match h.get b with
  | some (.cells t n e st ez) => match setCells n t o l with
    | some t' => some (h.put b (.cells t' n e st ez))
    | none => none
  | _ => none

def allFlat : List AV → Bool
  | [] => true
  | v :: l => match v.flat with
    | true => allFlat l
    | false => false

/-- a new row. -/
noncomputable def AHeap.row (h : AHeap) (e : TypeId) (l : List AV) (st : Bool) (ez : Nat) : AHeap := h.new (.cells (PT.ofList .lf 0 l) l.length e st ez)

/-! ### types -/
structure TInf where
  desc : TypeDesc
  size : Nat
  bytes : Nat
  zero : Option (List AV)
  agg : Bool

/-- An extern: a mark without and with an address; compare and swap; add. -/
inductive Ext where
  | mark0
  | mark1
  | cas (k : IntKind)
  | add (k : IntKind)

structure Env where
  ti : PT TInf
  fn : PT Func
  sh : TypeId → Bool
  gt : TypeId → Bool
  ex : PT Ext

def descAgg : TypeDesc → Bool
  | .struct _ | .array _ _ => true
  | _ => false

def zeroOf (agg : Bool) : Option Value → Option (List AV)
  | some (.agg cs) => match agg with
    | true => AV.ofCells cs.toList
    | false => none
  | some v => match agg, AV.ofConst v with
    | false, some a => some [a]
    | _, _ => none
  | none => none

def mkTInf (P : Program) (i : TypeInfo) : Option TInf :=
  match (match i.desc with
    | .named _ u => (P.info? u).map (·.desc)
    | d => some d : Option TypeDesc) with
  | some d => some { desc := d, size := i.size, bytes := i.bytes, zero := zeroOf (descAgg d) i.zero, agg := descAgg d }
  | none => none

noncomputable def mkTis (P : Program) (t : PT TInf) (i : Nat) : List TypeInfo → PT TInf
  | [] => t
  | x :: l => match mkTInf P x with
    | some y => mkTis P (t.set i y) (i + 1) l
    | none => mkTis P t (i + 1) l

/-- externs that the machine knows -/
def extNamed (n : String) : Option Ext :=
  if n = "internal/race.Disable" then some .mark0
  else if n = "internal/race.Enable" then some .mark0
  else if n = "internal/race.Acquire" then some .mark1
  else if n = "internal/race.ReleaseMerge" then some .mark1
  else if n = "sync/atomic.CompareAndSwapInt32" then some (.cas .i32)
  else if n = "sync/atomic.AddInt32" then some (.add .i32)
  else none
def extOf (fn : Func) : Option Ext := match fn.body with
  | some _ => none
  | none => if fn.origin = "" then extNamed fn.name else none
noncomputable def mkExts (t : PT Ext) (i : Nat) : List Func → PT Ext
  | [] => t
  | x :: l => match extOf x with
    | some y => mkExts (t.set i y) (i + 1) l
    | none => mkExts t (i + 1) l

noncomputable def mkEnv (P : Program) : Env := { ti := mkTis P .lf 0 P.types.toList, fn := PT.ofList .lf 0 P.funcs.toList, sh := P.stoodInHeld, gt := P.eqGuardType P.depth, ex := mkExts .lf 0 P.funcs.toList }

end Go.Abs
