/- The abstract machine: what is to be shown of a region, of a condition and of a loop; no conditions. -/
import Derived.Test.YtlidmkmjemoaeaaGreatDoorAbsS
set_option linter.unusedVariables false
set_option linter.unusedSimpArgs false
set_option linter.unusedSectionVars false
namespace Go.Abs
open Go

abbrev KT := TL → List AD → AHeap → Prop

/-- An operation, where its result goes, the slot that guards it. -/
structure ROp where
  dst : Option Nat
  op : Op
  guard : Option (Nat × Bool)

/-- the slot of a guard; a guard without a slot leads nowhere -/
def rguard (ops : Array Oper) : Option (Nat × Bool) → Option (Nat × Bool)
  | none => none
  | some (j, b) => match (ops[j]?).bind (·.dst) with
    | some d => some (d, b)
    | none => some (big, b)
def rop (ops : Array Oper) (o : Oper) : ROp := ⟨o.dst, o.op, rguard ops o.guard⟩
noncomputable def wantR (l : TL) : Option (Nat × Bool) → Option Bool
  | none => some true
  | some (d, b) => wantV b (l.get d)

section v
variable (X : Mach)

/-- what is to be shown of a region -/
def RegV : List ROp → TL → List AD → AHeap → KT → Prop
  | [], l, ds, h, K => K l ds h
  | o :: rest, l, ds, h, K => match wantR l o.guard with
    | some true => match opA X.E h l.fr o.op with
      | some (.val v) => RegV rest (l.put o.dst v) ds h K
      | some (.mem v h₁) => RegV rest (l.put o.dst v) ds h₁ K
      | some (.call f as) => Will X f as h fun v h₁ => RegV rest (l.put o.dst v) ds h₁ K
      | some (.dfr e) => RegV rest (l.put o.dst (.tuple [])) (.fn e :: ds) h K
      | _ => False
    | some false => RegV rest (l.put o.dst (.tuple [])) ds h K
    | none => False

/-- no slot is beyond -/
def TL.small (l : TL) : Prop := ∀ v, l.get big ≠ some v
theorem TL.small_put {l : TL} {nt : Nat} {dst : Option Nat} {v : AV} (hd : dstOk nt dst = true) (h : l.small) : (l.put dst v).small := by
  cases dst with
  | none => exact h
  | some d =>
    intro w e
    simp only [TL.put, TL.get_cons] at e
    simp only [dstOk, Bool.and_eq_true] at hd
    have : ¬ d = big := by have := hd.2; simp at this; omega
    rw [if_neg this] at e
    exact h w e
theorem wantR_ok {ops : Array Oper} {l : TL} {o : Oper} {b : Bool} (hs : l.small) (h : wantR l (rguard ops o.guard) = some b) : want ops l.fr o = some b := by
  obtain ⟨dst, op, ty, pos, af, g⟩ := o
  cases g with
  | none => exact h
  | some g =>
    obtain ⟨j, c⟩ := g
    show wantD l.fr c ((ops[j]?).bind (·.dst)) = some b
    simp only [rguard] at h
    cases hd : (ops[j]?).bind (·.dst) with
    | none =>
      rw [hd] at h
      simp only [wantR] at h
      cases hg : l.get big with
      | none => rw [hg] at h; simp [wantV] at h
      | some v => exact absurd hg (hs v)
    | some d =>
      rw [hd] at h
      simp only [wantR] at h
      simp only [wantD, TL.fr_get]
      exact h

def dstsIn (nt : Nat) (l : List Oper) : Bool := l.all fun o => dstOk nt o.dst

theorem RegV.ok {X : Mach} {nt : Nat} {ops : Array Oper} {K : KT} : ∀ (rest : List Oper) (l : TL) (ds : List AD) (h : AHeap), dstsIn nt rest = true → l.small → RegV X (rest.map (rop ops)) l ds h K → ∃ l₁ ds₁ h₁, Reg X nt ops rest l ds h l₁ ds₁ h₁ ∧ l₁.small ∧ K l₁ ds₁ h₁
  | [], l, ds, h, _, hs, hr => ⟨l, ds, h, Reg.nil, hs, hr⟩
  | o :: rest, l, ds, h, hd, hs, hr => by
    simp only [dstsIn, List.all_cons, Bool.and_eq_true] at hd
    obtain ⟨hd, hds⟩ := hd
    rw [List.map_cons, RegV] at hr
    split at hr
    · rename_i hw
      replace hw : want ops l.fr o = some true := wantR_ok hs hw
      split at hr
      · rename_i v ho
        obtain ⟨l₁, ds₁, h₁, h1, h2⟩ := RegV.ok rest _ ds h hds (TL.small_put hd hs) hr
        exact ⟨l₁, ds₁, h₁, Reg.val hw ho hd h1, h2⟩
      · rename_i v h' ho
        obtain ⟨l₁, ds₁, h₁, h1, h2⟩ := RegV.ok rest _ ds h' hds (TL.small_put hd hs) hr
        exact ⟨l₁, ds₁, h₁, Reg.mem hw ho hd h1, h2⟩
      · rename_i f as ho
        obtain ⟨v, h', hc, hr⟩ := hr
        obtain ⟨l₁, ds₁, h₁, h1, h2⟩ := RegV.ok rest _ ds h' hds (TL.small_put hd hs) hr
        exact ⟨l₁, ds₁, h₁, Reg.call hw ho hd hc h1, h2⟩
      · rename_i e ho
        obtain ⟨l₁, ds₁, h₁, h1, h2⟩ := RegV.ok rest _ _ h hds (TL.small_put hd hs) hr
        exact ⟨l₁, ds₁, h₁, Reg.dfr hw ho hd h1, h2⟩
      · exact hr.elim
    · rename_i hw
      replace hw : want ops l.fr o = some false := wantR_ok hs hw
      obtain ⟨l₁, ds₁, h₁, h1, h2⟩ := RegV.ok rest _ ds h hds (TL.small_put hd hs) hr
      exact ⟨l₁, ds₁, h₁, Reg.skip hw hd h1, h2⟩
    · exact hr.elim

def RegDV (ms : PT Nat) : List ROp → Nat → List Seen → List (Nat × AHeap) → TL → List AD → AHeap → KT → Prop
  | [], i, ss, hs, l, ds, h, K => SeenPs X.E ms h hs ss ∧ K l ds h
  | o :: rest, i, ss, hs, l, ds, h, K => match wantR l o.guard with
    | some true => match cls X.E o.op, opA X.E h l.fr o.op with
      | .pure, some (.val v) => RegDV ms rest (i + 1) ss hs (l.put o.dst v) ds h K
      | .look, some (.val v) => RegDV ms rest (i + 1) (⟨i, o.op, l.fr, v⟩ :: ss) hs (l.put o.dst v) ds h K
      | .alloc, some (.mem v h₁) => RegDV ms rest (i + 1) ss hs (l.put o.dst v) ds h₁ K
      | .eff, some (.val v) => RegDV ms rest (i + 1) ss ((i, h) :: hs) (l.put o.dst v) ds h K
      | .eff, some (.mem v h₁) => RegDV ms rest (i + 1) ss ((i, h) :: hs) (l.put o.dst v) ds h₁ K
      | .eff, some (.call f as) => Will X f as h fun v h₁ => RegDV ms rest (i + 1) ss ((i, h) :: hs) (l.put o.dst v) ds h₁ K
      | _, _ => False
    | some false => RegDV ms rest (i + 1) ss hs (l.put o.dst (.tuple [])) ds h K
    | none => False

theorem RegDV.ok {X : Mach} {nt : Nat} {ops : Array Oper} {ms : PT Nat} {K : KT} : ∀ (rest : List Oper) (i : Nat) (ss : List Seen) (hs : List (Nat × AHeap)) (l : TL) (ds : List AD) (h : AHeap), dstsIn nt rest = true → l.small → RegDV X ms (rest.map (rop ops)) i ss hs l ds h K →
    ∃ l₁ ds₁ h₁ ssF hsF, RegD X nt ops rest i ss hs l ds h l₁ ds₁ h₁ ssF hsF ∧ l₁.small ∧ SeenPs X.E ms h₁ hsF ssF ∧ K l₁ ds₁ h₁
  | [], i, ss, hs, l, ds, h, _, hsm, hr => ⟨l, ds, h, ss, hs, RegD.nil, hsm, hr⟩
  | o :: rest, i, ss, hs, l, ds, h, hd, hsm, hr => by
    simp only [dstsIn, List.all_cons, Bool.and_eq_true] at hd
    obtain ⟨hd, hds⟩ := hd
    rw [List.map_cons, RegDV] at hr
    split at hr
    · rename_i hw
      replace hw : want ops l.fr o = some true := wantR_ok hsm hw
      split at hr
      · rename_i v hc ho
        obtain ⟨l₁, ds₁, h₁, s1, s2, h1, h2⟩ := RegDV.ok rest _ _ _ _ ds h hds (TL.small_put hd hsm) hr
        exact ⟨l₁, ds₁, h₁, s1, s2, RegD.pure hw hc ho hd h1, h2⟩
      · rename_i v hc ho
        obtain ⟨l₁, ds₁, h₁, s1, s2, h1, h2⟩ := RegDV.ok rest _ _ _ _ ds h hds (TL.small_put hd hsm) hr
        exact ⟨l₁, ds₁, h₁, s1, s2, RegD.look hw hc ho hd h1, h2⟩
      · rename_i v h' hc ho
        obtain ⟨l₁, ds₁, h₁, s1, s2, h1, h2⟩ := RegDV.ok rest _ _ _ _ ds h' hds (TL.small_put hd hsm) hr
        exact ⟨l₁, ds₁, h₁, s1, s2, RegD.alloc hw hc ho hd h1, h2⟩
      · rename_i v hc ho
        obtain ⟨l₁, ds₁, h₁, s1, s2, h1, h2⟩ := RegDV.ok rest _ _ _ _ ds h hds (TL.small_put hd hsm) hr
        exact ⟨l₁, ds₁, h₁, s1, s2, RegD.effVal hw hc ho hd h1, h2⟩
      · rename_i v h' hc ho
        obtain ⟨l₁, ds₁, h₁, s1, s2, h1, h2⟩ := RegDV.ok rest _ _ _ _ ds h' hds (TL.small_put hd hsm) hr
        exact ⟨l₁, ds₁, h₁, s1, s2, RegD.eff hw hc ho hd h1, h2⟩
      · rename_i f as hc ho
        obtain ⟨v, h', hcl, hr⟩ := hr
        obtain ⟨l₁, ds₁, h₁, s1, s2, h1, h2⟩ := RegDV.ok rest _ _ _ _ ds h' hds (TL.small_put hd hsm) hr
        exact ⟨l₁, ds₁, h₁, s1, s2, RegD.call hw hc ho hd hcl h1, h2⟩
      · exact hr.elim
    · rename_i hw
      replace hw : want ops l.fr o = some false := wantR_ok hsm hw
      obtain ⟨l₁, ds₁, h₁, s1, s2, h1, h2⟩ := RegDV.ok rest _ _ _ _ ds h hds (TL.small_put hd hsm) hr
      exact ⟨l₁, ds₁, h₁, s1, s2, RegD.skip hw hd h1, h2⟩
    · exact hr.elim
end v

/-! ### statements, whose frames are small -/
section w
variable {X : Mach} {f : FuncId} {nt : Nat} {k : List Item} {l : TL} {ds : List AD} {h : AHeap} {Q : KT}

def V (X : Mach) (f : FuncId) (nt : Nat) (todo : List Item) (l : TL) (ds : List AD) (h : AHeap) (Q : KT) : Prop := l.small → W X f nt todo l ds h Q

theorem V.skip (w : V X f nt k l ds h Q) : V X f nt (.code .skip :: k) l ds h Q := fun s => W.skip (w s)
theorem V.seq {a b : Code} (w : V X f nt (.code a :: .code b :: k) l ds h Q) : V X f nt (.code (.seq a b) :: k) l ds h Q := fun s => W.seq (w s)
theorem V.block {i : Nat} {b : Code} (w : V X f nt (.code b :: .inBlock i :: k) l ds h Q) : V X f nt (.code (.block i b) :: k) l ds h Q := fun s => W.block (w s)
theorem V.loop {b : Code} (w : V X f nt (.inLoop b :: k) l ds h Q) : V X f nt (.code (.loop b) :: k) l ds h Q := fun s => W.loop (w s)
theorem V.inLoop {b : Code} (w : V X f nt (.code b :: .inLoop b :: k) l ds h Q) : V X f nt (.inLoop b :: k) l ds h Q := fun s => W.inLoop (w s)
theorem V.inBlock {i : Nat} (w : V X f nt k l ds h Q) : V X f nt (.inBlock i :: k) l ds h Q := fun s => W.inBlock (w s)
theorem V.scope {b : Code} (w : V X f nt (.code b :: .inScope b :: k) l ds h Q) : V X f nt (.code (.scope b) :: k) l ds h Q := fun s => W.scope (w s)
theorem V.inScope {b : Code} (w : V X f nt k l ds h Q) : V X f nt (.inScope b :: k) l ds h Q := fun s => W.inScope (w s)
theorem V.label {i : Nat} (w : V X f nt k l ds h Q) : V X f nt (.code (.label i) :: k) l ds h Q := fun s => W.label (w s)
theorem V.exit {i : Nat} {k' : List Item} (he : exitTo i k = some k') (w : V X f nt k' l ds h Q) : V X f nt (.code (.exit i) :: k) l ds h Q := fun s => W.exit he (w s)
theorem V.goto {i : Nat} {k' : List Item} (he : gotoIn i k = some k') (w : V X f nt k' l ds h Q) : V X f nt (.code (.goto i) :: k) l ds h Q := fun s => W.goto he (w s)
theorem V.ret (q : Q l ds h) : V X f nt (.code .ret :: k) l ds h Q := fun _ => W.ret q
theorem V.done (q : Q l ds h) : V X f nt [] l ds h Q := fun _ => W.done q
theorem TL.Le.small {l₁ : TL} (hl : l₁.Le l) (s : l.small) : l₁.small := fun v e => s v (hl _ _ e)
theorem V.weak {todo : List Item} {l₁ : TL} (hl : l₁.Le l) (w : V X f nt todo l₁ ds h Q) : V X f nt todo l ds h Q := fun s => W.weak hl (w (hl.small s))
theorem V.reg {id : Nat} {ops : Array Oper} (hd : dstsIn nt ops.toList = true) (hr : ∀ K : KT, (∀ l ds h, V X f nt k l ds h Q → K l ds h) → RegV X (ops.toList.map (rop ops)) l ds h K) : V X f nt (.code (.region id ops false) :: k) l ds h Q := fun s => by
  obtain ⟨l₁, ds₁, h₁, h1, h2, h3⟩ := RegV.ok ops.toList l ds h hd s (hr (V X f nt k · · · Q) fun _ _ _ w => w)
  exact W.region h1 (h3 h2)
theorem V.regD {id : Nat} {ops : Array Oper} (hok : regionOk X.E ops = true) (hd : dstsIn nt ops.toList = true) (hr : ∀ K : KT, (∀ l ds h, V X f nt k l ds h Q → K l ds h) → RegDV X (masks .lf 0 ops.toList) (ops.toList.map (rop ops)) 0 [] [] l ds h K) :
    V X f nt (.code (.region id ops true) :: k) l ds h Q := fun s => by
  obtain ⟨l₁, ds₁, h₁, ss, hs, h1, h2, h4, h3⟩ := RegDV.ok ops.toList 0 [] [] l ds h hd s (hr (V X f nt k · · · Q) fun _ _ _ w => w)
  exact W.regionD hok h1 h4 (h3 h2)

/-- what is to be shown of a condition -/
def CondV (c : Option AV) (a b : Prop) : Prop := match c with
  | some (.bool t) => (t = true → a) ∧ (t = false → b)
  | _ => False
theorem CondV_bool {t : Bool} {a b : Prop} (h1 : t = true → a) (h2 : t = false → b) : CondV (some (.bool t)) a b := ⟨h1, h2⟩
theorem CondV_true {a b : Prop} : CondV (some (.bool true)) a b = a := by simp [CondV]
theorem CondV_false {a b : Prop} : CondV (some (.bool false)) a b = b := by simp [CondV]
theorem V.cond {c : Operand} {a b : Code} (hc : CondV (opnd l.fr c) (V X f nt (.code a :: k) l ds h Q) (V X f nt (.code b :: k) l ds h Q)) : V X f nt (.code (.cond c a b) :: k) l ds h Q := fun s => by
  unfold CondV at hc
  split at hc
  · rename_i t ht
    exact W.cond ht (fun e => hc.1 e s) (fun e => hc.2 e s)
  · exact hc.elim

/-- A loop: a number falls with each round. -/
theorem V.rounds {b : Code} (P : Nat → KT) {m : Nat} (h0 : P m l ds h)
    (step : ∀ m l ds h, P m l ds h → (∀ m' l' ds' h', m' < m → P m' l' ds' h' → V X f nt (.inLoop b :: k) l' ds' h' Q) → V X f nt (.code b :: .inLoop b :: k) l ds h Q) : V X f nt (.inLoop b :: k) l ds h Q := by
  induction m using Nat.strongRecOn generalizing l ds h with
  | ind m ih => exact V.inLoop (step m l ds h h0 fun m' l' ds' h' hm hp => ih m' hm hp)

/-- what is to be shown at a function's end -/
def EndQ (X : Mach) (rs : List ResultVar) (Q : AV → AHeap → Prop) : KT := fun l ds h₁ => ∃ h' vs, ds.length ≤ 100 ∧ Undo X ds h₁ h' ∧ resultsA X.E h' l.fr rs = some vs ∧ Q (oneOr vs) h'
theorem Will.body {as : List AV} {Q : AV → AHeap → Prop} {fn : Func} {c : Code} (hI : X.I f = none) (hf : X.E.fn.get f = some fn) (hb : fn.body = some c) (hl : Nat.ble as.length fn.ntmps = true) (hn : Nat.ble fn.ntmps 100000 = true)
    (w : V X f fn.ntmps [.code c] (TL.ofArgs 0 as) [] h (EndQ X fn.results.toList Q)) : Will X f as h Q := by
  have hbig : (100000 : Nat) < big := by unfold big; omega
  have hn' : fn.ntmps ≤ 100000 := by simpa using hn
  refine Will.fn hI hf hb hl (by simp; omega) (w fun v e => ?_)
  obtain ⟨_, h2, _⟩ := TL.get_ofArgs as 0 big v e
  have : as.length ≤ fn.ntmps := by simpa using hl
  omega
end w

/-! ### equations for a walk -/
section eqs
variable {X : Mach} {K : KT} {rest : List ROp} {l : TL} {ds : List AD} {h : AHeap} {dst : Option Nat} {op : Op} {d : Nat} {b c : Bool} {v : AV} {h₁ : AHeap}

def OpV (X : Mach) (rest : List ROp) (dst : Option Nat) (l : TL) (ds : List AD) (h : AHeap) (K : KT) (r : Option OpR) : Prop := match r with
  | some (.val v) => RegV X rest (l.put dst v) ds h K
  | some (.mem v h₁) => RegV X rest (l.put dst v) ds h₁ K
  | some (.call f as) => Will X f as h fun v h₁ => RegV X rest (l.put dst v) ds h₁ K
  | some (.dfr e) => RegV X rest (l.put dst (.tuple [])) (.fn e :: ds) h K
  | _ => False
def WantV (X : Mach) (rest : List ROp) (dst : Option Nat) (op : Op) (l : TL) (ds : List AD) (h : AHeap) (K : KT) (r : Option Bool) : Prop := match r with
  | some true => OpV X rest dst l ds h K (opA X.E h l.fr op)
  | some false => RegV X rest (l.put dst (.tuple [])) ds h K
  | none => False
def CallK (X : Mach) (rest : List ROp) (dst : Option Nat) (l : TL) (ds : List AD) (K : KT) : AV → AHeap → Prop := fun v h₁ => RegV X rest (l.put dst v) ds h₁ K

theorem beqT : (b == true) = b := by cases b <;> rfl
theorem beqF : (b == false) = !b := by cases b <;> rfl
theorem RegV_nil : RegV X [] l ds h K = K l ds h := rfl
theorem RegV_plain : RegV X (⟨dst, op, none⟩ :: rest) l ds h K = OpV X rest dst l ds h K (opA X.E h l.fr op) := rfl
theorem RegV_guard : RegV X (⟨dst, op, some (d, b)⟩ :: rest) l ds h K = WantV X rest dst op l ds h K (wantV b (l.get d)) := rfl
theorem wantV_bool : wantV b (some (.bool c)) = some (c == b) := rfl
theorem wantV_unit : wantV b (some (.tuple [])) = some false := rfl
theorem WantV_true : WantV X rest dst op l ds h K (some true) = OpV X rest dst l ds h K (opA X.E h l.fr op) := rfl
theorem WantV_false : WantV X rest dst op l ds h K (some false) = RegV X rest (l.put dst (.tuple [])) ds h K := rfl
theorem WantV_split {t : Bool} (h1 : t = true → WantV X rest dst op l ds h K (some true)) (h2 : t = false → WantV X rest dst op l ds h K (some false)) : WantV X rest dst op l ds h K (some t) := by
  cases t
  · exact h2 rfl
  · exact h1 rfl
theorem OpV_val : OpV X rest dst l ds h K (some (.val v)) = RegV X rest (l.put dst v) ds h K := rfl
theorem OpV_mem : OpV X rest dst l ds h K (some (.mem v h₁)) = RegV X rest (l.put dst v) ds h₁ K := rfl
theorem OpV_call {f : FuncId} {as : List AV} : OpV X rest dst l ds h K (some (.call f as)) = Will X f as h (CallK X rest dst l ds K) := rfl
theorem OpV_dfr {e : ADef} : OpV X rest dst l ds h K (some (.dfr e)) = RegV X rest (l.put dst (.tuple [])) (.fn e :: ds) h K := rfl
theorem CallK_eq : CallK X rest dst l ds K v h₁ = RegV X rest (l.put dst v) ds h₁ K := rfl
theorem put_some : l.put (some d) v = .cons d v l := rfl
theorem put_none : l.put none v = l := rfl
theorem rop_none {ops : Array Oper} {ty : TypeId} {pos : String} {af : Array Edge} : rop ops ⟨dst, op, ty, pos, af, none⟩ = ⟨dst, op, none⟩ := rfl
theorem rop_some {ops : Array Oper} {ty : TypeId} {pos : String} {af : Array Edge} {j d : Nat} (hj : (ops[j]?).bind (·.dst) = some d) : rop ops ⟨dst, op, ty, pos, af, some (j, b)⟩ = ⟨dst, op, some (d, b)⟩ := by
  simp only [rop, rguard, hj]
theorem TL_Le_nil : TL.nil.Le l := fun t v e => by rw [TL.get_nil] at e; cases e
theorem TL_Le_cons {l' : TL} {t : Nat} (hv : l.get t = some v) (hl : l'.Le l) : (TL.cons t v l').Le l := fun u w e => by
  rw [TL.get_cons] at e
  split at e
  · rename_i e1; subst e1; cases e; exact hv
  · exact hl u w e
theorem get_eq {t : Nat} : (TL.cons t v l).get t = some v := by rw [TL.get_cons, if_pos rfl]

/-! the same of a drawn region -/
variable {ms : PT Nat} {i : Nat} {ss : List Seen} {hs : List (Nat × AHeap)}
def OpDV (X : Mach) (ms : PT Nat) (rest : List ROp) (dst : Option Nat) (op : Op) (i : Nat) (ss : List Seen) (hs : List (Nat × AHeap)) (l : TL) (ds : List AD) (h : AHeap) (K : KT) (c : Cls) (r : Option OpR) : Prop := match c, r with
  | .pure, some (.val v) => RegDV X ms rest (i + 1) ss hs (l.put dst v) ds h K
  | .look, some (.val v) => RegDV X ms rest (i + 1) (⟨i, op, l.fr, v⟩ :: ss) hs (l.put dst v) ds h K
  | .alloc, some (.mem v h₁) => RegDV X ms rest (i + 1) ss hs (l.put dst v) ds h₁ K
  | .eff, some (.val v) => RegDV X ms rest (i + 1) ss ((i, h) :: hs) (l.put dst v) ds h K
  | .eff, some (.mem v h₁) => RegDV X ms rest (i + 1) ss ((i, h) :: hs) (l.put dst v) ds h₁ K
  | .eff, some (.call f as) => Will X f as h fun v h₁ => RegDV X ms rest (i + 1) ss ((i, h) :: hs) (l.put dst v) ds h₁ K
  | _, _ => False
def WantDV (X : Mach) (ms : PT Nat) (rest : List ROp) (dst : Option Nat) (op : Op) (i : Nat) (ss : List Seen) (hs : List (Nat × AHeap)) (l : TL) (ds : List AD) (h : AHeap) (K : KT) (r : Option Bool) : Prop := match r with
  | some true => OpDV X ms rest dst op i ss hs l ds h K (cls X.E op) (opA X.E h l.fr op)
  | some false => RegDV X ms rest (i + 1) ss hs (l.put dst (.tuple [])) ds h K
  | none => False
def CallDK (X : Mach) (ms : PT Nat) (rest : List ROp) (dst : Option Nat) (i : Nat) (ss : List Seen) (hs : List (Nat × AHeap)) (l : TL) (ds : List AD) (h : AHeap) (K : KT) : AV → AHeap → Prop := fun v h₁ => RegDV X ms rest (i + 1) ss ((i, h) :: hs) (l.put dst v) ds h₁ K
theorem RegDV_nil : RegDV X ms [] i ss hs l ds h K = (SeenPs X.E ms h hs ss ∧ K l ds h) := rfl
theorem RegDV_plain : RegDV X ms (⟨dst, op, none⟩ :: rest) i ss hs l ds h K = OpDV X ms rest dst op i ss hs l ds h K (cls X.E op) (opA X.E h l.fr op) := by
  rw [RegDV]; simp only [wantR]
  unfold OpDV
  cases cls X.E op <;> rfl
theorem RegDV_guard : RegDV X ms (⟨dst, op, some (d, b)⟩ :: rest) i ss hs l ds h K = WantDV X ms rest dst op i ss hs l ds h K (wantV b (l.get d)) := by
  rw [RegDV]; simp only [wantR]
  cases hw : wantV b (l.get d) with
  | none => rfl
  | some t =>
    cases t with
    | false => rfl
    | true =>
      show _ = OpDV X ms rest dst op i ss hs l ds h K (cls X.E op) (opA X.E h l.fr op)
      unfold OpDV
      cases cls X.E op <;> rfl
theorem WantDV_split {t : Bool} (h1 : t = true → WantDV X ms rest dst op i ss hs l ds h K (some true)) (h2 : t = false → WantDV X ms rest dst op i ss hs l ds h K (some false)) : WantDV X ms rest dst op i ss hs l ds h K (some t) := by
  cases t
  · exact h2 rfl
  · exact h1 rfl
theorem WantDV_true : WantDV X ms rest dst op i ss hs l ds h K (some true) = OpDV X ms rest dst op i ss hs l ds h K (cls X.E op) (opA X.E h l.fr op) := rfl
theorem WantDV_false : WantDV X ms rest dst op i ss hs l ds h K (some false) = RegDV X ms rest (i + 1) ss hs (l.put dst (.tuple [])) ds h K := rfl
theorem OpDV_pure : OpDV X ms rest dst op i ss hs l ds h K .pure (some (.val v)) = RegDV X ms rest (i + 1) ss hs (l.put dst v) ds h K := rfl
theorem OpDV_look : OpDV X ms rest dst op i ss hs l ds h K .look (some (.val v)) = RegDV X ms rest (i + 1) (⟨i, op, l.fr, v⟩ :: ss) hs (l.put dst v) ds h K := rfl
theorem OpDV_alloc : OpDV X ms rest dst op i ss hs l ds h K .alloc (some (.mem v h₁)) = RegDV X ms rest (i + 1) ss hs (l.put dst v) ds h₁ K := rfl
theorem OpDV_effVal : OpDV X ms rest dst op i ss hs l ds h K .eff (some (.val v)) = RegDV X ms rest (i + 1) ss ((i, h) :: hs) (l.put dst v) ds h K := rfl
theorem OpDV_eff : OpDV X ms rest dst op i ss hs l ds h K .eff (some (.mem v h₁)) = RegDV X ms rest (i + 1) ss ((i, h) :: hs) (l.put dst v) ds h₁ K := rfl
theorem OpDV_call {f : FuncId} {as : List AV} : OpDV X ms rest dst op i ss hs l ds h K .eff (some (.call f as)) = Will X f as h (CallDK X ms rest dst i ss hs l ds h K) := rfl
theorem CallDK_eq : CallDK X ms rest dst i ss hs l ds h K v h₁ = RegDV X ms rest (i + 1) ss ((i, h) :: hs) (l.put dst v) ds h₁ K := rfl

theorem cls_move {E : Env} {x : Operand} : cls E (.move x) = .pure := rfl
theorem cls_assign {E : Env} {x : Operand} : cls E (.assign x) = .pure := rfl
theorem cls_pick {E : Env} {x a b : Operand} : cls E (.pick x a b) = .pure := rfl
theorem cls_build {E : Env} {t : TypeId} {ps : Array (Nat × Operand)} : cls E (.build t ps) = .pure := rfl
theorem cls_nilCheck {E : Env} {x : Operand} : cls E (.nilCheck x) = .pure := rfl
theorem cls_eql {E : Env} {t : TypeId} {x y : Operand} {u : TypeId} : cls E (.binOp .eql t x y u) = .look := rfl
theorem cls_neq {E : Env} {t : TypeId} {x y : Operand} {u : TypeId} : cls E (.binOp .neq t x y u) = .look := rfl
theorem cls_bin {E : Env} {o : BinOp} {t : TypeId} {x y : Operand} {u : TypeId} (h1 : o ≠ .eql) (h2 : o ≠ .neq) : cls E (.binOp o t x y u) = .pure := by cases o <;> simp at h1 h2 <;> rfl
theorem cls_add {E : Env} {t : TypeId} {x y : Operand} {u : TypeId} : cls E (.binOp .add t x y u) = .pure := rfl
theorem cls_sub {E : Env} {t : TypeId} {x y : Operand} {u : TypeId} : cls E (.binOp .sub t x y u) = .pure := rfl
theorem cls_mul {E : Env} {t : TypeId} {x y : Operand} {u : TypeId} : cls E (.binOp .mul t x y u) = .pure := rfl
theorem cls_quo {E : Env} {t : TypeId} {x y : Operand} {u : TypeId} : cls E (.binOp .quo t x y u) = .pure := rfl
theorem cls_rem {E : Env} {t : TypeId} {x y : Operand} {u : TypeId} : cls E (.binOp .rem t x y u) = .pure := rfl
theorem cls_and {E : Env} {t : TypeId} {x y : Operand} {u : TypeId} : cls E (.binOp .and t x y u) = .pure := rfl
theorem cls_or {E : Env} {t : TypeId} {x y : Operand} {u : TypeId} : cls E (.binOp .or t x y u) = .pure := rfl
theorem cls_xor {E : Env} {t : TypeId} {x y : Operand} {u : TypeId} : cls E (.binOp .xor t x y u) = .pure := rfl
theorem cls_shl {E : Env} {t : TypeId} {x y : Operand} {u : TypeId} : cls E (.binOp .shl t x y u) = .pure := rfl
theorem cls_shr {E : Env} {t : TypeId} {x y : Operand} {u : TypeId} : cls E (.binOp .shr t x y u) = .pure := rfl
theorem cls_lss {E : Env} {t : TypeId} {x y : Operand} {u : TypeId} : cls E (.binOp .lss t x y u) = .pure := rfl
theorem cls_leq {E : Env} {t : TypeId} {x y : Operand} {u : TypeId} : cls E (.binOp .leq t x y u) = .pure := rfl
theorem cls_gtr {E : Env} {t : TypeId} {x y : Operand} {u : TypeId} : cls E (.binOp .gtr t x y u) = .pure := rfl
theorem cls_geq {E : Env} {t : TypeId} {x y : Operand} {u : TypeId} : cls E (.binOp .geq t x y u) = .pure := rfl
theorem cls_unOp {E : Env} {o : UnOp} {t : TypeId} {x : Operand} : cls E (.unOp o t x) = .pure := rfl
theorem cls_makeInterface {E : Env} {t : TypeId} {x : Operand} : cls E (.makeInterface t x) = .pure := rfl
theorem cls_makeFunc {E : Env} {fn : Fn} {x y : Array Operand} : cls E (.makeFunc fn x y) = .pure := rfl
theorem cls_fieldAddr {E : Env} {t : TypeId} {x : Operand} {f : Nat} : cls E (.fieldAddr t x f) = .pure := rfl
theorem cls_field {E : Env} {t : TypeId} {x : Operand} {f : Nat} : cls E (.field t x f) = .pure := rfl
theorem cls_indexAddr {E : Env} {t : TypeId} {x y : Operand} : cls E (.indexAddr t x y) = .pure := rfl
theorem cls_index {E : Env} {t : TypeId} {x y : Operand} : cls E (.index t x y) = .pure := rfl
theorem cls_extract {E : Env} {x : Operand} {j : Nat} : cls E (.extract x j) = .pure := rfl
theorem cls_typeAssert {E : Env} {x : Operand} {t u : TypeId} {ok : Bool} : cls E (.typeAssert x t u ok) = .pure := rfl
theorem cls_alloc {E : Env} {t : TypeId} : cls E (.alloc t) = .alloc := rfl
theorem cls_box {E : Env} {t : TypeId} {x : Operand} : cls E (.box t x) = .alloc := rfl
theorem cls_buildSlice {E : Env} {t : TypeId} {n : Nat} {ps : Array (Nat × Operand)} : cls E (.buildSlice t n ps) = .alloc := rfl
theorem cls_makeMap {E : Env} {t : TypeId} {r : Option Operand} : cls E (.makeMap t r) = .alloc := rfl
theorem cls_makeSlice {E : Env} {t : TypeId} {x y : Operand} : cls E (.makeSlice t x y) = .alloc := rfl
theorem cls_load {E : Env} {t : TypeId} {x : Operand} : cls E (.load t x) = .look := rfl
theorem cls_slice {E : Env} {t : TypeId} {x : Operand} {a b c : Option Operand} : cls E (.slice t x a b c) = .look := rfl
theorem cls_lookup {E : Env} {t : TypeId} {x y : Operand} {ok : Bool} : cls E (.lookup t x y ok) = .look := rfl
theorem cls_store {E : Env} {t : TypeId} {x y : Operand} : cls E (.store t x y) = .eff := rfl
theorem cls_mapUpdate {E : Env} {t : TypeId} {x y z : Operand} : cls E (.mapUpdate t x y z) = .eff := rfl
theorem cls_call {E : Env} {f : Operand} {xs : Array Operand} {ts : Array TypeId} : cls E (.call { callee := .value f, args := xs, argTypes := ts }) = .eff := rfl
theorem cls_append {E : Env} {xs : Array Operand} {ts : Array TypeId} : cls E (.call { callee := .builtin .append, args := xs, argTypes := ts }) = .eff := rfl
theorem cls_len {E : Env} {xs : Array Operand} {ts : Array TypeId} {t : TypeId} (ht : ts[0]? = some t) (hm : isMap E t = false) : cls E (.call { callee := .builtin .len, args := xs, argTypes := ts }) = .pure := by
  simp only [cls, ht, hm]

theorem SeenPs_nil {E : Env} : SeenPs E ms h hs [] = True := rfl
theorem SeenPs_cons {E : Env} {x : Seen} : SeenPs E ms h hs (x :: ss) = (SeenP E ms x h hs ∧ SeenPs E ms h hs ss) := rfl
theorem SeenP_nil {E : Env} {x : Seen} : SeenP E ms x h [] = True := rfl
theorem SeenP_cons {E : Env} {j e : Nat} {fr : Fr} : SeenP E ms ⟨j, op, fr, v⟩ h₁ ((e, h) :: hs) = (((match Nat.ble (Nat.add e 1) j with
      | true => bit ((ms.get j).getD 0) e
      | false => bit ((ms.get e).getD 0) j) = true ∨ (opA E h fr op = some (.val v) ∧ opA E h₁ fr op = some (.val v))) ∧ SeenP E ms ⟨j, op, fr, v⟩ h hs) := rfl
end eqs

/-! ### the same, by number -/
section num
variable {X : Mach} {K : KT} {R : List ROp} {n : Nat} {l : TL} {ds : List AD} {h h₁ : AHeap} {dst : Option Nat} {op : Op} {d : Nat} {b c : Bool} {v : AV}

/-- the operations, one by one -/
def Elems (R : List ROp) : Nat → List ROp → Prop
  | i, [] => R[i]? = none
  | i, a :: l => R[i]? = some a ∧ Elems R (i + 1) l
theorem Elems.of {R : List ROp} : ∀ (m : List ROp) (i : Nat), R.drop i = m → Elems R i m
  | [], i, h => by
    show R[i]? = none
    rw [List.getElem?_eq_none_iff]
    exact List.drop_eq_nil_iff.1 h
  | a :: m, i, h => by
    refine ⟨?_, Elems.of m (i + 1) ?_⟩
    · have := congrArg (·[0]?) h
      simpa using this
    · rw [← List.drop_drop, h]; rfl

def RegR (X : Mach) (R : List ROp) (n : Nat) (l : TL) (ds : List AD) (h : AHeap) (K : KT) : Prop := RegV X (R.drop n) l ds h K
def OpQ (X : Mach) (R : List ROp) (n : Nat) (dst : Option Nat) (l : TL) (ds : List AD) (h : AHeap) (K : KT) (r : Option OpR) : Prop := OpV X (R.drop n) dst l ds h K r
def WantR (X : Mach) (R : List ROp) (n : Nat) (dst : Option Nat) (op : Op) (l : TL) (ds : List AD) (h : AHeap) (K : KT) (r : Option Bool) : Prop := WantV X (R.drop n) dst op l ds h K r
def StepR (X : Mach) (R : List ROp) (n : Nat) (l : TL) (ds : List AD) (h : AHeap) (K : KT) (r : Option ROp) : Prop := match r with
  | none => K l ds h
  | some ⟨dst, op, none⟩ => OpQ X R n dst l ds h K (opA X.E h l.fr op)
  | some ⟨dst, op, some (d, b)⟩ => WantR X R n dst op l ds h K (wantV b (l.get d))
def CallR (X : Mach) (R : List ROp) (n : Nat) (dst : Option Nat) (l : TL) (ds : List AD) (K : KT) : AV → AHeap → Prop := fun v h₁ => RegR X R n (l.put dst v) ds h₁ K

theorem RegR_step : RegR X R n l ds h K = StepR X R (n + 1) l ds h K R[n]? := by
  unfold RegR StepR
  cases hr : R[n]? with
  | none => rw [List.drop_eq_nil_iff.2 (List.getElem?_eq_none_iff.1 hr)]; rfl
  | some o =>
    obtain ⟨hn, e⟩ := List.getElem?_eq_some_iff.1 hr
    have : R.drop n = o :: R.drop (n + 1) := by rw [List.drop_eq_getElem_cons hn, e]
    rw [this]
    obtain ⟨dst, op, g⟩ := o
    cases g with
    | none => rfl
    | some g => obtain ⟨d, b⟩ := g; rfl
theorem StepR_none : StepR X R n l ds h K none = K l ds h := rfl
theorem StepR_plain : StepR X R n l ds h K (some ⟨dst, op, none⟩) = OpQ X R n dst l ds h K (opA X.E h l.fr op) := rfl
theorem StepR_guard : StepR X R n l ds h K (some ⟨dst, op, some (d, b)⟩) = WantR X R n dst op l ds h K (wantV b (l.get d)) := rfl
theorem WantR_true : WantR X R n dst op l ds h K (some true) = OpQ X R n dst l ds h K (opA X.E h l.fr op) := rfl
theorem WantR_false : WantR X R n dst op l ds h K (some false) = RegR X R n (l.put dst (.tuple [])) ds h K := rfl
theorem WantR_split {t : Bool} (h1 : t = true → WantR X R n dst op l ds h K (some true)) (h2 : t = false → WantR X R n dst op l ds h K (some false)) : WantR X R n dst op l ds h K (some t) := by
  cases t
  · exact h2 rfl
  · exact h1 rfl
theorem OpQ_val : OpQ X R n dst l ds h K (some (.val v)) = RegR X R n (l.put dst v) ds h K := rfl
theorem OpQ_mem : OpQ X R n dst l ds h K (some (.mem v h₁)) = RegR X R n (l.put dst v) ds h₁ K := rfl
theorem OpQ_call {f : FuncId} {as : List AV} : OpQ X R n dst l ds h K (some (.call f as)) = Will X f as h (CallR X R n dst l ds K) := rfl
theorem OpQ_dfr {e : ADef} : OpQ X R n dst l ds h K (some (.dfr e)) = RegR X R n (l.put dst (.tuple [])) (.fn e :: ds) h K := rfl
theorem CallR_eq : CallR X R n dst l ds K v h₁ = RegR X R n (l.put dst v) ds h₁ K := rfl

/-- only these slots -/
noncomputable def TL.keep (l : TL) : List Nat → TL
  | [] => .nil
  | t :: ts => match l.get t with
    | some v => .cons t v (l.keep ts)
    | none => l.keep ts
theorem TL.keep_Le (l : TL) : ∀ ts, (l.keep ts).Le l
  | [] => TL_Le_nil
  | t :: ts => by
    simp only [TL.keep]
    split
    · rename_i v hv; exact TL_Le_cons hv (TL.keep_Le l ts)
    · exact TL.keep_Le l ts
def KeepV (v : Option AV) (t : Nat) (m : TL) : TL := match v with
  | some v => .cons t v m
  | none => m
theorem keep_nil : l.keep [] = .nil := rfl
theorem keep_cons {t : Nat} {ts : List Nat} : l.keep (t :: ts) = KeepV (l.get t) t (l.keep ts) := by
  rw [TL.keep]; unfold KeepV; split <;> rfl
theorem KeepV_some {t : Nat} {m : TL} : KeepV (some v) t m = .cons t v m := rfl
theorem KeepV_none {t : Nat} {m : TL} : KeepV none t m = m := rfl

theorem V.regR {f : FuncId} {nt : Nat} {k : List Item} {Q : KT} {id : Nat} {ops : Array Oper} (ts : List Nat) (hd : dstsIn nt ops.toList = true)
    (hr : ∀ (R : List ROp) (K : KT), Elems R 0 (ops.toList.map (rop ops)) → (∀ l ds h, V X f nt k l ds h Q → K l ds h) → RegR X R 0 (l.keep ts) ds h K) : V X f nt (.code (.region id ops false) :: k) l ds h Q :=
  V.weak (TL.keep_Le l ts) (V.reg hd fun K hK => hr _ K (Elems.of _ 0 rfl) fun l ds h w => hK l ds h w)

variable {ms : PT Nat} {i : Nat} {ss : List Seen} {hs : List (Nat × AHeap)}
def RegDR (X : Mach) (ms : PT Nat) (R : List ROp) (n : Nat) (ss : List Seen) (hs : List (Nat × AHeap)) (l : TL) (ds : List AD) (h : AHeap) (K : KT) : Prop := RegDV X ms (R.drop n) n ss hs l ds h K
def OpDR (X : Mach) (ms : PT Nat) (R : List ROp) (n : Nat) (dst : Option Nat) (op : Op) (ss : List Seen) (hs : List (Nat × AHeap)) (l : TL) (ds : List AD) (h : AHeap) (K : KT) (c : Cls) (r : Option OpR) : Prop := OpDV X ms (R.drop (n + 1)) dst op n ss hs l ds h K c r
def WantDR (X : Mach) (ms : PT Nat) (R : List ROp) (n : Nat) (dst : Option Nat) (op : Op) (ss : List Seen) (hs : List (Nat × AHeap)) (l : TL) (ds : List AD) (h : AHeap) (K : KT) (r : Option Bool) : Prop := WantDV X ms (R.drop (n + 1)) dst op n ss hs l ds h K r
def StepDR (X : Mach) (ms : PT Nat) (R : List ROp) (n : Nat) (ss : List Seen) (hs : List (Nat × AHeap)) (l : TL) (ds : List AD) (h : AHeap) (K : KT) (r : Option ROp) : Prop := match r with
  | none => SeenPs X.E ms h hs ss ∧ K l ds h
  | some ⟨dst, op, none⟩ => OpDR X ms R n dst op ss hs l ds h K (cls X.E op) (opA X.E h l.fr op)
  | some ⟨dst, op, some (d, b)⟩ => WantDR X ms R n dst op ss hs l ds h K (wantV b (l.get d))
def CallDR (X : Mach) (ms : PT Nat) (R : List ROp) (n : Nat) (dst : Option Nat) (ss : List Seen) (hs : List (Nat × AHeap)) (l : TL) (ds : List AD) (K : KT) : AV → AHeap → Prop := fun v h₁ => RegDR X ms R n ss hs (l.put dst v) ds h₁ K
theorem RegDR_step : RegDR X ms R n ss hs l ds h K = StepDR X ms R n ss hs l ds h K R[n]? := by
  unfold RegDR StepDR
  cases hr : R[n]? with
  | none => rw [List.drop_eq_nil_iff.2 (List.getElem?_eq_none_iff.1 hr)]; rfl
  | some o =>
    obtain ⟨hn, e⟩ := List.getElem?_eq_some_iff.1 hr
    have : R.drop n = o :: R.drop (n + 1) := by rw [List.drop_eq_getElem_cons hn, e]
    rw [this]
    obtain ⟨dst, op, g⟩ := o
    cases g with
    | none => exact RegDV_plain
    | some g => obtain ⟨d, b⟩ := g; exact RegDV_guard
theorem StepDR_none : StepDR X ms R n ss hs l ds h K none = (SeenPs X.E ms h hs ss ∧ K l ds h) := rfl
theorem StepDR_plain : StepDR X ms R n ss hs l ds h K (some ⟨dst, op, none⟩) = OpDR X ms R n dst op ss hs l ds h K (cls X.E op) (opA X.E h l.fr op) := rfl
theorem StepDR_guard : StepDR X ms R n ss hs l ds h K (some ⟨dst, op, some (d, b)⟩) = WantDR X ms R n dst op ss hs l ds h K (wantV b (l.get d)) := rfl
theorem WantDR_true : WantDR X ms R n dst op ss hs l ds h K (some true) = OpDR X ms R n dst op ss hs l ds h K (cls X.E op) (opA X.E h l.fr op) := rfl
theorem WantDR_false : WantDR X ms R n dst op ss hs l ds h K (some false) = RegDR X ms R (n + 1) ss hs (l.put dst (.tuple [])) ds h K := rfl
theorem WantDR_split {t : Bool} (h1 : t = true → WantDR X ms R n dst op ss hs l ds h K (some true)) (h2 : t = false → WantDR X ms R n dst op ss hs l ds h K (some false)) : WantDR X ms R n dst op ss hs l ds h K (some t) := by
  cases t
  · exact h2 rfl
  · exact h1 rfl
theorem OpDR_pure : OpDR X ms R n dst op ss hs l ds h K .pure (some (.val v)) = RegDR X ms R (n + 1) ss hs (l.put dst v) ds h K := rfl
theorem OpDR_look : OpDR X ms R n dst op ss hs l ds h K .look (some (.val v)) = RegDR X ms R (n + 1) (⟨n, op, l.fr, v⟩ :: ss) hs (l.put dst v) ds h K := rfl
theorem OpDR_alloc : OpDR X ms R n dst op ss hs l ds h K .alloc (some (.mem v h₁)) = RegDR X ms R (n + 1) ss hs (l.put dst v) ds h₁ K := rfl
theorem OpDR_effVal : OpDR X ms R n dst op ss hs l ds h K .eff (some (.val v)) = RegDR X ms R (n + 1) ss ((n, h) :: hs) (l.put dst v) ds h K := rfl
theorem OpDR_eff : OpDR X ms R n dst op ss hs l ds h K .eff (some (.mem v h₁)) = RegDR X ms R (n + 1) ss ((n, h) :: hs) (l.put dst v) ds h₁ K := rfl
theorem OpDR_call {f : FuncId} {as : List AV} : OpDR X ms R n dst op ss hs l ds h K .eff (some (.call f as)) = Will X f as h (CallDR X ms R (n + 1) dst ss ((n, h) :: hs) l ds K) := rfl
theorem CallDR_eq : CallDR X ms R n dst ss hs l ds K v h₁ = RegDR X ms R n ss hs (l.put dst v) ds h₁ K := rfl
theorem V.regDR {f : FuncId} {nt : Nat} {k : List Item} {Q : KT} {id : Nat} {ops : Array Oper} (ts : List Nat) (hok : regionOk X.E ops = true) (hd : dstsIn nt ops.toList = true)
    (hr : ∀ (R : List ROp) (ms : PT Nat) (K : KT), ms = masks .lf 0 ops.toList → Elems R 0 (ops.toList.map (rop ops)) → (∀ l ds h, V X f nt k l ds h Q → K l ds h) → RegDR X ms R 0 [] [] (l.keep ts) ds h K) : V X f nt (.code (.region id ops true) :: k) l ds h Q :=
  V.weak (TL.keep_Le l ts) (V.regD hok hd fun K hK => hr _ _ K rfl (Elems.of _ 0 rfl) fun l ds h w => hK l ds h w)
theorem V.condB {f : FuncId} {nt : Nat} {k : List Item} {Q : KT} {c : Operand} {a b : Code} {t : Bool} (hc : opnd l.fr c = some (.bool t)) (h1 : t = true → V X f nt (.code a :: k) l ds h Q) (h2 : t = false → V X f nt (.code b :: k) l ds h Q) : V X f nt (.code (.cond c a b) :: k) l ds h Q :=
  V.cond (by rw [hc]; exact ⟨h1, h2⟩)
end num

def ResP (x : Option (List AV)) (P : List AV → Prop) : Prop := ∃ vs, x = some vs ∧ P vs
theorem ResP_some {vs : List AV} {P : List AV → Prop} : ResP (some vs) P = P vs := by simp [ResP]
theorem V.out {X : Mach} {f : FuncId} {nt : Nat} {k : List Item} {l : TL} {h : AHeap} {rs : List ResultVar} {Q : AV → AHeap → Prop} (hr : ResP (resultsA X.E h l.fr rs) fun vs => Q (oneOr vs) h) :
    V X f nt (.code .ret :: k) l [] h (EndQ X rs Q) := by
  obtain ⟨vs, h1, h2⟩ := hr
  exact V.ret ⟨h, vs, by decide, Undo.nil _ _, h1, h2⟩
theorem V.outDone {X : Mach} {f : FuncId} {nt : Nat} {l : TL} {h : AHeap} {rs : List ResultVar} {Q : AV → AHeap → Prop} (hr : ResP (resultsA X.E h l.fr rs) fun vs => Q (oneOr vs) h) :
    V X f nt [] l [] h (EndQ X rs Q) := by
  obtain ⟨vs, h1, h2⟩ := hr
  exact V.done ⟨h, vs, by decide, Undo.nil _ _, h1, h2⟩
/-- with deferred calls -/
theorem V.outU {X : Mach} {f : FuncId} {nt : Nat} {k : List Item} {l : TL} {ds : List AD} {h h' : AHeap} {rs : List ResultVar} {Q : AV → AHeap → Prop} (hd : ds.length ≤ 100) (hu : Undo X ds h h') (hr : ResP (resultsA X.E h' l.fr rs) fun vs => Q (oneOr vs) h') :
    V X f nt (.code .ret :: k) l ds h (EndQ X rs Q) := by
  obtain ⟨vs, h1, h2⟩ := hr
  exact V.ret ⟨h', vs, hd, hu, h1, h2⟩
theorem oneOr_one {v : AV} : oneOr [v] = v := rfl
theorem oneOr_two {v w : AV} {l : List AV} : oneOr (v :: w :: l) = .tuple (v :: w :: l) := rfl
theorem oneOr_nil : oneOr [] = .tuple [] := rfl
attribute [irreducible] V

/-! ### equations whose premises are closed -/
section closed
variable {E : Env} {h : AHeap} {b o n : Nat} {v : AV} {r : RowI} {t : TypeId}
theorem fnGet {P : Program} {f : FuncId} {fn : Func} (h : P.funcs[f]? = some fn) : (mkEnv P).fn.get f = some fn := by
  show (PT.ofList .lf 0 P.funcs.toList).get f = some fn
  have hl : f < P.funcs.toList.length := by
    rcases Nat.lt_or_ge f P.funcs.size with h' | h'
    · simpa using h'
    · rw [Array.getElem?_eq_none h'] at h; cases h
  have hc : 0 ≤ f ∧ f < 0 + P.funcs.toList.length := ⟨Nat.zero_le _, by rw [Nat.zero_add]; exact hl⟩
  rw [PT.get_ofList, if_pos hc]
  simpa using h
theorem aFNil : allFlat [] = true := rfl
theorem aFCons {v : AV} {l : List AV} : allFlat (v :: l) = (v.flat && allFlat l) := by
  rw [allFlat]; cases v.flat <;> rfl
theorem eqNext_some {a x : Bool} : eqNext (some a) (some x) = some (a && x) := by cases a <;> rfl
theorem ofMap {α β : Type} {x : Option α} {g : α → β} {y : β} (h : x.map g = some y) : ∃ i, x = some i ∧ g i = y := by
  cases x with
  | none => cases h
  | some i => exact ⟨i, rfl, by simpa using h⟩
theorem ldOne (hk : (E.ti.get t).map (·.agg) = some false) : loadA E h t (.ptr b o) = h.at b o := by
  obtain ⟨i, hi, ha⟩ := ofMap hk
  exact loadA_one hi ha
theorem ldAgg {n : Nat} (hk : (E.ti.get t).map (fun i => (i.agg, i.size)) = some (true, n + 1)) : loadA E h t (.ptr b o) = (h.cellsAt b o (n + 1)).map .agg := by
  obtain ⟨i, hi, ha⟩ := ofMap hk
  simp only [Prod.mk.injEq] at ha
  exact loadA_agg hi ha.1 ha.2
theorem stOne (hk : (E.ti.get t).map (·.size) = some 1) (hf : v.flat = true) (hr : h.info b = some r) (hl : o + 1 ≤ r.n) : storeA E h t (.ptr b o) v = some (h.wr b o [v]) := by
  obtain ⟨i, hi, ha⟩ := ofMap hk
  have hc : v.cells = [v] := by cases v <;> simp [AV.flat] at hf <;> rfl
  have := store_eq (E := E) (h := h) (t := t) (i := i) (b := b) (o := o) (v := v) (r := r) hi (by rw [hc, ha]; rfl) (by rw [hc]; simp [allFlat, hf]) hr (by rw [ha]; exact hl)
  rwa [hc] at this
theorem stAgg {n : Nat} {cs : List AV} (hk : (E.ti.get t).map (·.size) = some n) (hc : cs.length = n) (hf : allFlat cs = true) (hr : h.info b = some r) (hl : o + n ≤ r.n) : storeA E h t (.ptr b o) (.agg cs) = some (h.wr b o cs) := by
  obtain ⟨i, hi, ha⟩ := ofMap hk
  exact store_eq (E := E) (h := h) (t := t) (i := i) (b := b) (o := o) (v := .agg cs) (r := r) hi (by show Nat.beq cs.length i.size = true; rw [ha, hc]; simp) hf hr (by rw [ha]; exact hl)
noncomputable def slOf (E : Env) (t : TypeId) : Option Nat := match E.ti.get t with
  | some i => match i.desc with
    | .slice e => sizeA E e
    | _ => none
  | none => none
noncomputable def arOf (E : Env) (t : TypeId) : Option (Nat × Nat) := match E.ti.get t with
  | some i => match i.desc with
    | .array n e => (sizeA E e).map fun z => (n, z)
    | _ => none
  | none => none
/-- a store, if there is room -/
noncomputable def stW (h : AHeap) (b o : Nat) (l : List AV) (x : Option RowI) : Option AHeap := match x with
  | some r => if o + l.length ≤ r.n then some (h.wr b o l) else none
  | none => none
theorem setCells_none : ∀ (l : List AV) (n : Nat) (t : PT AV) (o : Nat), l ≠ [] → ¬ o + l.length ≤ n → setCells n t o l = none
  | [], n, t, o, hl, _ => absurd rfl hl
  | [v], n, t, o, _, h => by
    have : Nat.ble (o + 1) n = false := by rw [← Bool.not_eq_true]; simp at h ⊢; omega
    simp only [setCells, this]
  | v :: w :: l, n, t, o, _, h => by
    simp only [setCells]
    split
    · exact setCells_none (w :: l) n _ (o + 1) (by simp) (by simp at h ⊢; omega)
    · rfl
theorem store_stW {l : List AV} (hl : l ≠ []) (hf : allFlat l = true) : h.store b o l = stW h b o l (h.info b) := by
  cases hr : h.info b with
  | none =>
    show _ = none
    unfold AHeap.info at hr
    unfold AHeap.store
    split at hr
    · cases hr
    · split
      · rename_i hx _ _ _ _ _ _ he; exact absurd he (hx _ _ _ _ _)
      · rfl
  | some r =>
    by_cases hn : o + l.length ≤ r.n
    · rw [store_wr hr hn hf]; simp [stW, hn]
    · simp only [stW, hn, if_false]
      unfold AHeap.info at hr
      split at hr
      · rename_i t n e st ez hg
        cases hr
        simp only [AHeap.store, hg, setCells_none l n t o hl hn]
      · cases hr
theorem stOneW (hk : (E.ti.get t).map (·.size) = some 1) (hf : v.flat = true) : storeA E h t (.ptr b o) v = stW h b o [v] (h.info b) := by
  obtain ⟨i, hi, ha⟩ := ofMap hk
  have hc : v.cells = [v] := by cases v <;> simp [AV.flat] at hf <;> rfl
  have : Nat.beq v.cells.length i.size = true := by rw [hc, ha]; rfl
  simp only [storeA, sizeA, hi, this]
  rw [hc]
  exact store_stW (by simp) (by simp [allFlat, hf])
theorem stAggW {n : Nat} {cs : List AV} (hk : (E.ti.get t).map (·.size) = some (n + 1)) (hc : cs.length = n + 1) (hf : allFlat cs = true) : storeA E h t (.ptr b o) (.agg cs) = stW h b o cs (h.info b) := by
  obtain ⟨i, hi, ha⟩ := ofMap hk
  have : Nat.beq (AV.agg cs).cells.length i.size = true := by show Nat.beq cs.length i.size = true; rw [ha, hc]; simp
  simp only [storeA, sizeA, hi, this]
  exact store_stW (by intro (e : cs = []); rw [e] at hc; simp at hc) hf
theorem stW_ok {l : List AV} {e : TypeId} {st : Bool} {ez : Nat} (hl : o + l.length ≤ n) : stW h b o l (some ⟨n, e, st, ez⟩) = some (h.wr b o l) := by simp [stW, hl]
theorem at_wr_mem {l : List AV} {o' : Nat} (hs : (h.info b).isSome = true) (h1 : o ≤ o') (h2 : o' < o + l.length) : (h.wr b o l).at b o' = l[o' - o]? := by
  obtain ⟨r, hr⟩ := Option.isSome_iff_exists.1 hs
  exact at_wr_in hr h1 h2
theorem at_row_at {b' o' : Nat} {e : TypeId} {l : List AV} {st : Bool} {ez : Nat} (hb : b' = h.next) : (h.row e l st ez).at b' o' = l[o']? := by subst hb; exact at_row_eq
theorem info_row_at {b' : Nat} {e : TypeId} {l : List AV} {st : Bool} {ez : Nat} (hb : b' = h.next) : (h.row e l st ez).info b' = some ⟨l.length, e, st, ez⟩ := by subst hb; exact info_row_eq
theorem at_wr_off {b' o' : Nat} {l : List AV} (h1 : o' < o ∨ o + l.length ≤ o') : (h.wr b o l).at b' o' = h.at b' o' := at_wr_out h1
theorem slAr {n z : Nat} (hk : arOf E t = some (n + 1, z)) : sliceA E h t (.ptr b o) none none none = some (.val (.slice b o (n + 1) (some (n + 1)))) := by
  unfold arOf at hk
  split at hk
  · rename_i i hi
    split at hk
    · rename_i m e hd
      cases hs : sizeA E e with
      | none => rw [hs] at hk; cases hk
      | some y =>
        rw [hs] at hk
        simp only [Option.map_some, Option.some.injEq, Prod.mk.injEq] at hk
        obtain ⟨rfl, rfl⟩ := hk
        simp only [sliceA, hi, hd, hs, sliceX, Option.isSome_none, Option.isNone_none, Bool.false_and, bnd, cutX, fNat_eq]
        simp
        split <;> rfl
    · cases hk
  · cases hk
theorem faEq {f off : Nat} (hk : (fieldOf E t f).map (fun p => (p.1, Nat.ble 1 p.2.size)) = some (off, true)) : fieldAddrA E t (.ptr b o) f = some (.val (.ptr b (o + off))) := by
  obtain ⟨⟨x, y⟩, hi, ha⟩ := ofMap hk
  simp only [Prod.mk.injEq] at ha
  rw [← ha.1]
  exact fieldAddr_eq hi ha.2
def fdA (x : Option (List AV)) : Option OpR := match x with
  | some l => some (.val (.agg l))
  | none => none
def fdO (x : Option (List AV)) : Option OpR := match x with
  | some (v :: _) => some (.val v)
  | _ => none
theorem fdAgg {cs : List AV} {f off z : Nat} (hk : (fieldOf E t f).map (fun p => (p.1, p.2.agg, p.2.size)) = some (off, true, z)) : fieldA E t (.agg cs) f = fdA (takeN cs off z) := by
  obtain ⟨⟨x, y⟩, hi, ha⟩ := ofMap hk
  simp only [Prod.mk.injEq] at ha
  rw [field_eq hi, partA, ha.1, ha.2.1, ha.2.2]
  cases takeN cs off z <;> rfl
theorem fdOne {cs : List AV} {f off : Nat} (hk : (fieldOf E t f).map (fun p => (p.1, p.2.agg)) = some (off, false)) : fieldA E t (.agg cs) f = fdO (takeN cs off 1) := by
  obtain ⟨⟨x, y⟩, hi, ha⟩ := ofMap hk
  simp only [Prod.mk.injEq] at ha
  rw [field_eq hi, partA, ha.1, ha.2]
  cases takeN cs off 1 with
  | none => rfl
  | some l => cases l <;> rfl
theorem iaSl {m len z : Nat} {c : Option Nat} {k : IntKind} (hk : slOf E t = some z) (hm : m < len) : indexAddrA E t (.slice b o len c) (.int k (m : Int)) = some (.val (.ptr b (o + m * z))) := by
  unfold slOf at hk
  split at hk
  · rename_i i hi
    split at hk
    · rename_i e hd
      simp only [indexAddrA, hi, hd, idx_eq hm, hk, fNat_eq]
    · cases hk
  · cases hk
theorem iaAr {m len z : Nat} {k : IntKind} (hk : arOf E t = some (len, z)) (hm : m < len) : indexAddrA E t (.ptr b o) (.int k (m : Int)) = some (.val (.ptr b (o + m * z))) := by
  unfold arOf at hk
  split at hk
  · rename_i i hi
    split at hk
    · rename_i n e hd
      cases hs : sizeA E e with
      | none => rw [hs] at hk; cases hk
      | some y =>
        rw [hs] at hk
        simp only [Option.map_some, Option.some.injEq, Prod.mk.injEq] at hk
        obtain ⟨rfl, rfl⟩ := hk
        simp only [indexAddrA, hi, hd, idx_eq hm, hs, fNat_eq]
    · cases hk
  · cases hk
theorem alEq {z : List AV} (hk : (E.ti.get t).map (·.zero) = some (some z)) : allocA E h t = some (.mem (.ptr h.next 0) (h.row t z false 0)) := by
  obtain ⟨i, hi, ha⟩ := ofMap hk
  exact alloc_eq hi ha
noncomputable def stPl (E : Env) (t : TypeId) : Option (List (Nat × Nat)) := match E.ti.get t with
  | some i => match i.desc with
    | .struct fs => placesA E fs.toList
    | _ => none
  | none => none
theorem bdStruct {z : List AV} {pl : List (Nat × Nat)} {ps : List (Nat × AV)} (hz : (E.ti.get t).map (·.zero) = some (some z)) (hk : stPl E t = some pl) : buildA E t ps = builtAgg (fillA (fun i => pl[i]?) z ps) := by
  obtain ⟨i, hi, ha⟩ := ofMap hz
  unfold stPl at hk
  rw [hi] at hk
  simp only at hk
  split at hk
  · rename_i fs hd
    simp only [buildA, hi, ha, hd, hk]
  · cases hk
theorem bdArray {z : List AV} {n s : Nat} {ps : List (Nat × AV)} (hz : (E.ti.get t).map (·.zero) = some (some z)) (hk : arOf E t = some (n, s)) : buildA E t ps = builtAgg (fillA (fun i => some (i * s, s)) z ps) := by
  obtain ⟨i, hi, ha⟩ := ofMap hz
  unfold arOf at hk
  rw [hi] at hk
  simp only at hk
  split at hk
  · rename_i fs e hd
    cases hs : sizeA E e with
    | none => rw [hs] at hk; cases hk
    | some y =>
      rw [hs] at hk
      simp only [Option.map_some, Option.some.injEq, Prod.mk.injEq] at hk
      obtain ⟨rfl, rfl⟩ := hk
      simp only [buildA, hi, ha, hd, hs]
  · cases hk
/-- a slice's element: its type, its cells, its zero -/
noncomputable def slInf (E : Env) (t : TypeId) : Option (TypeId × Nat × Option (List AV)) := (elemA E t).map fun p => (p.1, p.2.size, p.2.zero)
theorem bsEq {e : TypeId} {z n : Nat} {zs cs : List AV} {ps : List (Nat × AV)} (hk : (elemA E t).map (fun p => (p.1, p.2.size, p.2.zero.map (fun y => (Nat.beq y.length p.2.size && Nat.ble (n * p.2.size) 1000000, zeros y n)))) = some (e, z, some (true, zs)))
    (hc : fillA (fun i => some (i * z, z)) zs ps = some cs) (hf : allFlat cs = true) : buildSliceA E h t n ps = some (.mem (.slice h.next 0 n (some n)) (h.row e cs false 0)) := by
  obtain ⟨⟨e', y⟩, hi, ha⟩ := ofMap hk
  simp only [Prod.mk.injEq] at ha
  obtain ⟨rfl, rfl, ha⟩ := ha
  obtain ⟨z', hz, ha⟩ := ofMap ha
  simp only [Prod.mk.injEq, Bool.and_eq_true] at ha
  obtain ⟨⟨h1, h2⟩, rfl⟩ := ha
  simp only [buildSliceA, hi, hz, h1, h2, hc, hf]
theorem lenSl {len : Nat} {c : Option Nat} (hk : (slOf E t).isSome = true) : builtA E h .len #[t] [.slice b o len c] = some (.val (.int .i64 (len : Int))) := by
  unfold slOf at hk
  split at hk
  · rename_i i hi
    split at hk
    · rename_i e hd
      simp only [builtA, builtinA, lenB, hi, hd]; rfl
    · cases hk
  · cases hk
theorem lenNil (hk : (slOf E t).isSome = true) : builtA E h .len #[t] [.nilSlice] = some (.val (.int .i64 0)) := by
  unfold slOf at hk
  split at hk
  · rename_i i hi
    split at hk
    · rename_i e hd
      simp only [builtA, builtinA, lenB, hi, hd]; rfl
    · cases hk
  · cases hk
theorem lenZero (hk : (slOf E t).isSome = true) : builtA E h .len #[t] [.slice0 b] = some (.val (.int .i64 0)) := by
  unfold slOf at hk
  split at hk
  · rename_i i hi
    split at hk
    · rename_i e hd
      simp only [builtA, builtinA, lenB, hi, hd]; rfl
    · cases hk
  · cases hk
noncomputable def isStr (E : Env) (t : TypeId) : Bool := match E.ti.get t with
  | some i => match i.desc with
    | .string => true
    | _ => false
  | none => false
theorem lenStr {s : List UInt8} (hk : isStr E t = true) : builtA E h .len #[t] [.str s] = some (.val (.int .i64 (s.length : Int))) := by
  unfold isStr at hk
  split at hk
  · rename_i i hi
    split at hk
    · rename_i hd
      simp only [builtA, builtinA, lenB, hi, hd, fNat_eq]; rfl
    · cases hk
  · cases hk
noncomputable def intOf (E : Env) (t : TypeId) : Option IntKind := match E.ti.get t with
  | some i => match i.desc with
    | .int k => some k
    | _ => none
  | none => none
theorem cvInt {s d : TypeId} {k j : IntKind} {z : Int} (hs : (E.ti.get s).isSome = true) (hk : intOf E d = some k) : convA E h s d (.int j z) = some (.val (.int k (k.wrap z))) := by
  unfold intOf at hk
  split at hk
  · rename_i i hi
    split at hk
    · rename_i k' hd
      cases hk
      obtain ⟨i', hi'⟩ := Option.isSome_iff_exists.1 hs
      exact conv_int hi' hi hd
    · cases hk
  · cases hk
noncomputable def isPtr (E : Env) (t : TypeId) : Bool := match E.ti.get t with
  | some i => match i.desc with
    | .pointer _ => true
    | _ => false
  | none => false
theorem isPtr_spec (hk : isPtr E t = true) : ∃ i e, E.ti.get t = some i ∧ i.desc = .pointer e := by
  unfold isPtr at hk
  split at hk
  · rename_i i hi
    split at hk
    · rename_i e hd; exact ⟨i, e, hi, hd⟩
    · cases hk
  · cases hk
noncomputable def isBoolT (E : Env) (t : TypeId) : Bool := match E.ti.get t with
  | some i => match i.desc with
    | .bool => true
    | _ => false
  | none => false
theorem beqlB {c x y : Bool} (hk : isBoolT E t = true) : binA E h .eql t c (.bool x) (.bool y) = some (.val (.bool (x == y))) := by
  unfold isBoolT at hk
  split at hk
  · rename_i i hi
    split at hk
    · rename_i hd
      simp only [binA, eqVal, hi, hd, vBool_eq]
    · cases hk
  · cases hk
theorem bneqB {c x y : Bool} (hk : isBoolT E t = true) : binA E h .neq t c (.bool x) (.bool y) = some (.val (.bool (!(x == y)))) := by
  unfold isBoolT at hk
  split at hk
  · rename_i i hi
    split at hk
    · rename_i hd
      simp only [binA, eqVal, hi, hd, vBool_eq]
    · cases hk
  · cases hk
theorem peqlNN {c : Bool} (hk : isPtr E t = true) : binA E h .eql t c .nilPtr .nilPtr = some (.val (.bool true)) := by
  obtain ⟨i, e, hi, hd⟩ := isPtr_spec hk; exact bin_nil_eql_nil hi hd
theorem peqlPN {c : Bool} (hk : isPtr E t = true) : binA E h .eql t c (.ptr b o) .nilPtr = some (.val (.bool false)) := by
  obtain ⟨i, e, hi, hd⟩ := isPtr_spec hk; exact bin_nil_eql_ptr hi hd
theorem pneqNN {c : Bool} (hk : isPtr E t = true) : binA E h .neq t c .nilPtr .nilPtr = some (.val (.bool false)) := by
  obtain ⟨i, e, hi, hd⟩ := isPtr_spec hk; exact bin_nil_neq_nil hi hd
theorem pneqPN {c : Bool} (hk : isPtr E t = true) : binA E h .neq t c (.ptr b o) .nilPtr = some (.val (.bool true)) := by
  obtain ⟨i, e, hi, hd⟩ := isPtr_spec hk; exact bin_nil_neq_ptr hi hd
end closed
end Go.Abs
