/- The abstract machine: regions, statements, calls; no conditions. -/
import Derived.Test.YtlidmkmjemoaeaaGreatDoorAbsB
namespace Go.Abs

noncomputable section

mutual
def beqAV : AV → AV → Bool
  | .int k a, .int j b => decide (k = j) && decide (a = b)
  | .bool a, .bool b => a == b
  | .str a, .str b => a == b
  | .nilPtr, .nilPtr => true
  | .ptr a o, .ptr b p => Nat.beq a b && Nat.beq o p
  | .nilSlice, .nilSlice => true
  | .slice a o n c, .slice b p m d => Nat.beq a b && Nat.beq o p && Nat.beq n m && decide (c = d)
  | .slice0 a, .slice0 b => Nat.beq a b
  | .nilMap, .nilMap => true
  | .map a, .map b => Nat.beq a b
  | .func f a c, .func g b d => decide (f = g) && beqAVs a b && beqAVs c d
  | .nilFunc, .nilFunc => true
  | .iface t v, .iface u w => Nat.beq t u && beqAV v w
  | .nilIface, .nilIface => true
  | .agg a, .agg b => beqAVs a b
  | .tuple a, .tuple b => beqAVs a b
  | .opq i, .opq j => Nat.beq i j
  | _, _ => false
def beqAVs : List AV → List AV → Bool
  | [], [] => true
  | a :: l, b :: m => beqAV a b && beqAVs l m
  | _, _ => false
end

/-! ### a region whose order is open: what may stand where -/
inductive Cls where
  | pure | alloc | look | eff

def isSlice (E : Env) (t : TypeId) : Bool := match E.ti.get t with
  | some i => match i.desc with
    | .slice _ => true
    | _ => false
  | none => false
def isUnsafe (E : Env) (t : TypeId) : Bool := match E.ti.get t with
  | some i => match i.desc with
    | .unsafePointer => true
    | _ => false
  | none => false
def isMap (E : Env) (t : TypeId) : Bool := match E.ti.get t with
  | some i => match i.desc with
    | .map _ _ => true
    | _ => false
  | none => false

def cls (E : Env) : Op → Cls
  | .binOp .eql .. | .binOp .neq .. | .slice .. => .look
  | .move _ | .assign _ | .pick .. | .build .. | .nilCheck _ | .binOp .. | .unOp .. | .makeInterface .. | .makeFunc .. | .fieldAddr .. | .field ..
  | .indexAddr .. | .index .. | .extract .. | .typeAssert .. => .pure
  | .alloc _ | .box .. | .buildSlice .. | .makeMap .. | .makeSlice .. => .alloc
  | .load .. | .lookup .. => .look
  | .convert s d _ => match isSlice E d, isSlice E s || isUnsafe E d with
    | true, _ => .alloc
    | false, true => .look
    | false, false => .pure
  | .call { callee := .builtin b, argTypes, .. } => match b with
    | .len => match argTypes[0]? with
      | some t => match isMap E t with
        | true => .look
        | false => .pure
      | none => .eff
    | .cap | .min | .max => .pure
    | _ => .eff
  | _ => .eff

def Cls.isEff : Cls → Bool
  | .eff => true
  | _ => false
def Cls.isLook : Cls → Bool
  | .look => true
  | _ => false

/-- slots that an operation reads -/
def readsO : List Operand → List Nat
  | [] => []
  | .tmp t :: l => t :: readsO l
  | _ :: l => readsO l

/-- the numbers of the operations that stand ahead of one in every order, as a mask: by its edges -/
def edgesMask (acc : PT Nat) : List Edge → Nat
  | [] => 0
  | e :: l => match Region.binds .any e with
    | true => Nat.lor (Nat.lor (Nat.pow 2 e.on) ((acc.get e.on).getD 0)) (edgesMask acc l)
    | false => edgesMask acc l

def masks (acc : PT Nat) (i : Nat) : List Oper → PT Nat
  | [] => acc
  | o :: l => fNat (edgesMask acc o.after.toList) fun m => masks (acc.set i m) (i + 1) l

def edgesOk (i : Nat) : List Edge → Bool
  | [] => true
  | e :: l => (!Region.binds .any e || Nat.ble (e.on + 1) i) && edgesOk i l

def bit (m i : Nat) : Bool := Nat.testBit m i

structure OInf where
  i : Nat
  cl : Cls
  dst : Option Nat
  reads : List Nat
  mask : Nat

def infos (E : Env) (ops : Array Oper) (ms : PT Nat) (i : Nat) : List Oper → List OInf
  | [] => []
  | o :: l =>
    { i, cl := cls E o.op, dst := o.dst,
      reads := readsO o.op.operands.toList ++ (match o.guard with
        | some (j, _) => match (ops[j]?).bind (·.dst) with
          | some d => [d]
          | none => []
        | none => []),
      mask := (ms.get i).getD 0 } :: infos E ops ms (i + 1) l

/-- x stands ahead of y in the list: they may not clash -/
def pairOk (x y : OInf) : Bool :=
  (bit y.mask x.i || ((match x.cl.isEff, y.cl.isEff with
      | true, true => false
      | _, _ => true) &&
    (match x.dst with
      | some d => !y.reads.elem d && (match y.dst with
        | some d' => !Nat.beq d d'
        | none => true)
      | none => true) &&
    (match y.dst with
      | some d => !x.reads.elem d
      | none => true)))

def pairsOk : List OInf → Bool
  | [] => true
  | x :: l => l.all (pairOk x) && pairsOk l

def dstsOk : List OInf → Bool
  | [] => true
  | x :: l => (match x.dst with
    | some d => l.all fun y => match y.dst with
      | some d' => !Nat.beq d d'
      | none => true
    | none => true) && dstsOk l

def allEdges (i : Nat) : List Oper → Bool
  | [] => true
  | o :: l => edgesOk i o.after.toList && (match o.guard with
    | some (j, _) => o.after.any fun e => Region.binds .any e && Nat.beq e.on j
    | none => true) && allEdges (i + 1) l

/-- May the region be walked in the order of its text? -/
def regionOk (E : Env) (ops : Array Oper) : Bool :=
  allEdges 0 ops.toList && (let l := infos E ops (masks .lf 0 ops.toList) 0 ops.toList; pairsOk l && dstsOk l)

/-! ### regions -/
inductive ACall where
  | fn (f : FuncId) (args : List AV)
  | yield (l : Nat) (args : List AV)

inductive AD where
  | fn (d : ADef)
  | mark (r : Nat)

abbrev CallT := ACall → AHeap → Option (AV × AHeap)

structure St where
  fr : Fr
  ds : List AD
  h : AHeap

/-- Is an operation to be done? -/
def wantV (b : Bool) (x : Option AV) : Option Bool := match x with
  | some v => match v with
    | .bool c => some (c == b)
    | .tuple [] => some false
    | _ => none
  | none => none
def wantD (fr : Fr) (b : Bool) (d : Option Nat) : Option Bool := match d with
  | some d => wantV b (fr.get d)
  | none => none
def want (ops : Array Oper) (fr : Fr) (o : Oper) : Option Bool :=
  Option.casesOn o.guard (some true) fun g => wantD fr g.2 ((ops[g.1]?).bind (·.dst))

section ops
variable {β : Type} (E : Env) (C : CallT) (nt : Nat) (rnd : Option Nat) (ih : Fr → List AD → AHeap → Option β)

def keepD (d : Nat) (v : AV) (fr : Fr) (ds : List AD) (h : AHeap) : Option β :=
  Bool.casesOn (Nat.ble (Nat.add d 1) nt) none (ih (fr.set d v) ds h)
def keep (dst : Option Nat) (v : AV) (fr : Fr) (ds : List AD) (h : AHeap) : Option β :=
  Option.casesOn dst (ih fr ds h) fun d => keepD nt ih d v fr ds h
def after (dst : Option Nat) (fr : Fr) (ds : List AD) (x : Option (AV × AHeap)) : Option β :=
  Option.casesOn x none fun p => Prod.casesOn p fun v h => keep nt ih dst v fr ds h
def doneR (dst : Option Nat) (fr : Fr) (ds : List AD) (h : AHeap) (r : OpR) : Option β :=
  OpR.casesOn r (fun v => keep nt ih dst v fr ds h) (fun v h => keep nt ih dst v fr ds h) (fun f l => after nt ih dst fr ds (C (.fn f l) h))
    (fun l a => after nt ih dst fr ds (C (.yield l a) h)) (fun d => Option.casesOn rnd (keep nt ih dst (.tuple []) fr (.fn d :: ds) h) fun _ => none)
def doOp (o : Oper) (fr : Fr) (ds : List AD) (h : AHeap) : Option β :=
  Option.casesOn (opA E h fr o.op) none fun r => doneR C nt rnd ih o.dst fr ds h r
def opsS (ops : Array Oper) (o : Oper) (fr : Fr) (ds : List AD) (h : AHeap) : Option β :=
  Option.casesOn (want ops fr o) none fun b => Bool.casesOn b (keep nt ih o.dst (.tuple []) fr ds h) (doOp E C nt rnd ih o fr ds h)
end ops

/-- In the order of the text. -/
def opsA (E : Env) (C : CallT) (nt : Nat) (rnd : Option Nat) (ops : Array Oper) (l : List Oper) : Fr → List AD → AHeap → Option St :=
  List.rec (fun fr ds h => some ⟨fr, ds, h⟩) (fun o _ ih => opsS E C nt rnd ih ops o) l

/-- What was looked at: by which operation, on which frame, what was seen. -/
structure Seen where
  i : Nat
  op : Op
  fr : Fr
  v : AV

abbrev KD := Nat → List Seen → List (Nat × AHeap) → Fr → List AD → AHeap → Option (St × List Seen × List (Nat × AHeap))

def oneD (E : Env) (C : CallT) (nt : Nat) (rnd : Option Nat) (o : Oper) (ih : KD) (i : Nat) (ss : List Seen) (hs : List (Nat × AHeap)) (fr : Fr) (ds : List AD) (h : AHeap) :
    Option (St × List Seen × List (Nat × AHeap)) :=
  match cls E o.op with
  | .look => match opA E h fr o.op with
    | some (.val v) => keep nt (ih (Nat.add i 1) ({ i, op := o.op, fr, v } :: ss) hs) o.dst v fr ds h
    | _ => none
  | .eff => doOp E C nt rnd (ih (Nat.add i 1) ss ((i, h) :: hs)) o fr ds h
  | .pure => match opA E h fr o.op with
    | some (.val v) => keep nt (ih (Nat.add i 1) ss hs) o.dst v fr ds h
    | _ => none
  | .alloc => match opA E h fr o.op with
    | some (.mem v h') => keep nt (ih (Nat.add i 1) ss hs) o.dst v fr ds h'
    | _ => none

def opsSD (E : Env) (C : CallT) (nt : Nat) (rnd : Option Nat) (ops : Array Oper) (o : Oper) (ih : KD) (i : Nat) (ss : List Seen) (hs : List (Nat × AHeap)) (fr : Fr) (ds : List AD) (h : AHeap) :
    Option (St × List Seen × List (Nat × AHeap)) :=
  match want ops fr o with
  | some b => match b with
    | true => oneD E C nt rnd o ih i ss hs fr ds h
    | false => keep nt (ih (Nat.add i 1) ss hs) o.dst (.tuple []) fr ds h
  | none => none

/-- In the order of the text; what was looked at, and the memory ahead of each effect (the last one first). -/
def opsD (E : Env) (C : CallT) (nt : Nat) (rnd : Option Nat) (ops : Array Oper) (l : List Oper) : KD :=
  List.rec (fun _ ss hs fr ds h => some (⟨fr, ds, h⟩, ss, hs)) (fun o _ ih => opsSD E C nt rnd ops o ih) l

/-- Is the same seen in another memory? -/
def seenIn (E : Env) (h : AHeap) (x : Seen) : Bool := match opA E h x.fr x.op with
  | some (.val v) => beqAV v x.v
  | _ => false

/-- Is the same seen wherever the look may stand? 'after': the memory behind the effect. -/
def seenOk (E : Env) (ms : PT Nat) (x : Seen) (after : AHeap) : List (Nat × AHeap) → Bool
  | [] => true
  | (e, h) :: l =>
    ((match Nat.ble (Nat.add e 1) x.i with
      | true => bit ((ms.get x.i).getD 0) e
      | false => bit ((ms.get e).getD 0) x.i) || (seenIn E h x && seenIn E after x)) && seenOk E ms x h l

def drawn (E : Env) (ms : PT Nat) (x : Option (St × List Seen × List (Nat × AHeap))) : Option St := match x with
  | some (s, ss, hs) => match ss.all (fun x => seenOk E ms x s.h hs) with
    | true => some s
    | false => none
  | none => none
def regionA (E : Env) (C : CallT) (nt : Nat) (rnd : Option Nat) (ops : Array Oper) (draw : Bool) (fr : Fr) (ds : List AD) (h : AHeap) : Option St :=
  Bool.casesOn draw (opsA E C nt rnd ops ops.toList fr ds h)
    (Bool.casesOn (regionOk E ops) none (drawn E (masks .lf 0 ops.toList) (opsD E C nt rnd ops ops.toList 0 [] [] fr ds h)))

/-! ### statements and calls -/
def setAll (nt : Nat) (fr : Fr) : List Tmp → List AV → Option Fr
  | [], [] => some fr
  | t :: ts, v :: vs => match Nat.ble (t + 1) nt with
    | true => setAll nt (fr.set t v) ts vs
    | false => none
  | _, _ => none

structure Left where
  jump : Option Code
  s : St

section run
variable (E : Env) (C : CallT) (nt : Nat) (fn : FuncId) (rnd : Option Nat) (ih : List Item → Fr → List AD → AHeap → Option Left)

def ranOver (ds : List AD) (k : List Item) (fr : Fr) (l : Nat) (x : Option (AV × AHeap)) : Option Left := match x with
  | some (_, h) => match h.get l with
    | some (.loop st pending fn' tmps' params' assign' body' r') => match st with
      | .busy => none
      | _ => match pending with
        | none => ih k fr ds (h.put l (.loop .exhausted pending fn' tmps' params' assign' body' r'))
        | some c => ih (.code c :: k) fr ds (h.put l (.loop .exhausted pending fn' tmps' params' assign' body' r'))
    | _ => none
  | none => none
def rangeOver (params : Array Tmp) (assign body : Code) (ds : List AD) (k : List Item) (fr : Fr) (h : AHeap) (r : Nat) (x : Option OpR) : Option Left := match x with
  | some (.call f l) => ranOver ih ds k fr h.next (C (.fn f l) (h.new (.loop .ready none fn fr params assign body r)))
  | _ => none
def rangeF (fv : AV) (params : Array Tmp) (assign body : Code) (k : List Item) (fr : Fr) (ds : List AD) (h : AHeap) : Option Left := match rnd with
  | none => rangeOver C fn ih params assign body (.mark h.next :: ds) k fr (h.new (.deferred (some []))) h.next (callA fv [.func (.yield (h.next + 1)) [] []])
  | some l => match h.get l with
    | some (.loop _ _ _ _ _ _ _ r) => rangeOver C fn ih params assign body ds k fr h r (callA fv [.func (.yield h.next) [] []])
    | _ => none
def condV (v : AV) (a b : Code) (k : List Item) (fr : Fr) (ds : List AD) (h : AHeap) : Option Left := match v with
  | .bool t => Bool.casesOn t (ih (.code b :: k) fr ds h) (ih (.code a :: k) fr ds h)
  | _ => none
def condC (c : Option AV) (a b : Code) (k : List Item) (fr : Fr) (ds : List AD) (h : AHeap) : Option Left :=
  Option.casesOn c none fun v => condV ih v a b k fr ds h
def jumpC (x : Option (List Item)) (j : Code) (fr : Fr) (ds : List AD) (h : AHeap) : Option Left := match x with
  | some k => ih k fr ds h
  | none => match rnd with
    | some _ => some { jump := some j, s := ⟨fr, ds, h⟩ }
    | none => none
def regC (x : Option St) (k : List Item) : Option Left :=
  Option.casesOn x none fun s => St.casesOn s fun fr ds h => ih k fr ds h
def rangeC (x : Option AV) (params : Array Tmp) (assign body : Code) (k : List Item) (fr : Fr) (ds : List AD) (h : AHeap) : Option Left := match x with
  | some fv => rangeF C fn rnd ih fv params assign body k fr ds h
  | none => none
def codeC (c : Code) (k : List Item) (fr : Fr) (ds : List AD) (h : AHeap) : Option Left :=
  Code.casesOn c
    (ih k fr ds h)
    (fun _ ops draw => regC ih (regionA E C nt rnd ops draw fr.drop ds h) k)
    (fun a b => ih (.code a :: .code b :: k) fr ds h)
    (fun c a b => condC ih (opnd fr c) a b k fr ds h)
    (fun id b => ih (.code b :: .inBlock id :: k) fr ds h)
    (fun b => ih (.code b :: .inLoop b :: k) fr ds h)
    (fun f params assign body => rangeC C fn rnd ih (opnd fr f) params assign body k fr ds h)
    (fun id => jumpC rnd ih (exitTo id k) (.exit id) fr ds h)
    (fun b => ih (.code b :: .inScope b :: k) fr ds h)
    (fun _ => ih k fr ds h)
    (fun l => jumpC rnd ih (gotoIn l k) (.goto l) fr ds h)
    (some { jump := some .ret, s := ⟨fr, ds, h⟩ })
    (fun _ => none)
def beginC (k : List Item) (fr : Fr) (ds : List AD) (h : AHeap) : Option Left := match rnd with
  | some l => match h.get l with
    | some (.loop st pending fn' tmps' params' assign' body' r') => match st with
      | .ready => ih k fr ds (h.put l (.loop .busy pending fn' tmps' params' assign' body' r'))
      | _ => none
    | _ => none
  | none => none
def itemC (x : Item) (k : List Item) (fr : Fr) (ds : List AD) (h : AHeap) : Option Left := match x with
  | .code c => codeC E C nt fn rnd ih c k fr ds h
  | .inBlock _ => ih k fr ds h
  | .inScope _ => ih k fr ds h
  | .inLoop b => ih (.code b :: .inLoop b :: k) fr ds h
  | .beginRound => beginC rnd ih k fr ds h
  | _ => none
def todoC (todo : List Item) (fr : Fr) (ds : List AD) (h : AHeap) : Option Left :=
  List.casesOn todo (some { jump := none, s := ⟨fr, ds, h⟩ }) fun x k => itemC E C nt fn rnd ih x k fr ds h
end run

def runA (E : Env) (C : CallT) (nt : Nat) (fn : FuncId) (rnd : Option Nat) (n : Nat) : List Item → Fr → List AD → AHeap → Option Left :=
  Nat.rec (fun _ _ _ _ => none) (fun _ ih => todoC E C nt fn rnd ih) n

/-- What the deferred calls do, when the function returns. -/
def deferA (C : CallT) : Nat → List AD → AHeap → Option AHeap
  | _, [], h => some h
  | 0, _ :: _, _ => none
  | n + 1, .mark r :: l, h => match h.get r with
    | some (.deferred (some [])) => deferA C n l (h.put r (.deferred none))
    | _ => none
  | n + 1, .fn d :: l, h => match d.fn with
    | .func f => match C (.fn f (d.args ++ d.captured)) h with
      | some (_, h') => deferA C n l h'
      | none => none
    | _ => none

def resultsA (E : Env) (h : AHeap) (fr : Fr) : List ResultVar → Option (List AV)
  | [] => some []
  | .tmp t :: l => match fr.get t with
    | some v => match resultsA E h fr l with
      | some vs => some (v :: vs)
      | none => none
    | none => none
  | .cell a t :: l => match fr.get a with
    | some p => match loadA E h t p with
      | some v => match resultsA E h fr l with
        | some vs => some (v :: vs)
        | none => none
      | none => none
    | none => none

def oneOr (l : List AV) : AV := match l with
  | [v] => v
  | l => .tuple l

/- 'S': the most steps of one activation -/

def endBody (E : Env) (fn : Func) (fr : Fr) (x : Option AHeap) : Option (AV × AHeap) := match x with
  | some h => match resultsA E h fr fn.results.toList with
    | some l => some (oneOr l, h)
    | none => none
  | none => none
def leftBody (E : Env) (C : CallT) (fn : Func) (x : Option Left) : Option (AV × AHeap) := match x with
  | some { jump, s } => match jump with
    | none => endBody E fn s.fr (deferA C 1000 s.ds s.h)
    | some c => match c with
      | .ret => endBody E fn s.fr (deferA C 1000 s.ds s.h)
      | _ => none
  | none => none
def bodyA (E : Env) (B : FuncId → Nat) (S : Nat) (C : CallT) (f : FuncId) (args : List AV) (h : AHeap) : Option (AV × AHeap) :=
  match E.fn.get f with
  | some fn => match fn.body with
    | some c => match Nat.ble args.length fn.ntmps with
      | true => leftBody E C fn (runA E C fn.ntmps f none S [.code c] (.mk (B f) .nil (PT.ofList .lf 0 args)) [] h)
      | false => none
    | none => none
  | none => none

def leftRound (l : Nat) (x : Option Left) : Option (AV × AHeap) := match x with
  | some { jump, s } => match s.h.get l with
    | some (.loop _ _ fn' tmps' params' assign' body' r') => match jump with
      | none => some (.bool true, s.h.put l (.loop .ready none fn' tmps' params' assign' body' r'))
      | some j => some (.bool false, s.h.put l (.loop .done (some j) fn' tmps' params' assign' body' r'))
    | _ => none
  | none => none
def roundB (E : Env) (S : Nat) (C : CallT) (l : Nat) (fn : FuncId) (f : Func) (assign body : Code) (h : AHeap) (x : Option Fr) : Option (AV × AHeap) := match x with
  | some fr => leftRound l (runA E C f.ntmps fn (some l) S [.code assign, .beginRound, .code body] fr [] h)
  | none => none
def roundA (E : Env) (S : Nat) (C : CallT) (l : Nat) (args : List AV) (h : AHeap) : Option (AV × AHeap) :=
  match h.get l with
  | some (.loop _ _ fn tmps params assign body _) => match E.fn.get fn with
    | some f => roundB E S C l fn f assign body h (setAll f.ntmps tmps params.toList args)
    | none => none
  | _ => none

def callS (E : Env) (B : FuncId → Nat) (I : FuncId → Option (List AV → AHeap → Option (AV × AHeap))) (S : Nat) (C : CallT) : CallT := fun c h => match c with
  | .fn f args => match I f with
    | some g => g args h
    | none => bodyA E B S C f args h
  | .yield l args => roundA E S C l args h
/-- A call, at most n deep; 'I': what some functions are known to do. -/
def callsA (E : Env) (B : FuncId → Nat) (I : FuncId → Option (List AV → AHeap → Option (AV × AHeap))) (S n : Nat) : CallT :=
  Nat.rec (fun _ _ => none) (fun _ C => callS E B I S C) n

end
end Go.Abs
