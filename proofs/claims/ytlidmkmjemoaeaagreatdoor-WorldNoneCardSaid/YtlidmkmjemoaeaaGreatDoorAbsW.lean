/- The abstract machine: rules by which a run with values and a memory that are not known is told; no conditions. -/
import Derived.Test.YtlidmkmjemoaeaaGreatDoorAbsI
set_option linter.unusedVariables false
set_option linter.unusedSimpArgs false
set_option linter.unusedSectionVars false
namespace Go.Abs
open Go

theorem oValI {x : Option AV} {r : OpR} (h : oVal x = some r) : ∃ v, x = some v ∧ r = .val v := by
  cases x with
  | none => cases h
  | some v => cases h; exact ⟨v, rfl, rfl⟩
theorem o1I {x : Option AV} {f : AV → Option OpR} {r : OpR} (h : o1 x f = some r) : ∃ v, x = some v ∧ f v = some r := by
  cases x with
  | none => cases h
  | some v => exact ⟨v, rfl, h⟩
theorem o2I {x y : Option AV} {f : AV → AV → Option OpR} {r : OpR} (h : o2 x y f = some r) : ∃ v w, x = some v ∧ y = some w ∧ f v w = some r := by
  cases x with
  | none => cases h
  | some v => cases y with
    | none => cases h
    | some w => exact ⟨v, w, rfl, rfl, h⟩
theorem oLI {x : Option (List AV)} {f : List AV → Option OpR} {r : OpR} (h : oL x f = some r) : ∃ v, x = some v ∧ f v = some r := by
  cases x with
  | none => cases h
  | some v => exact ⟨v, rfl, h⟩
theorem oPI {x : Option (List (Nat × AV))} {f : List (Nat × AV) → Option OpR} {r : OpR} (h : oP x f = some r) : ∃ v, x = some v ∧ f v = some r := by
  cases x with
  | none => cases h
  | some v => exact ⟨v, rfl, h⟩
theorem oOI {x : Option (Option AV)} {f : Option AV → Option OpR} {r : OpR} (h : oO x f = some r) : ∃ v, x = some v ∧ f v = some r := by
  cases x with
  | none => cases h
  | some v => exact ⟨v, rfl, h⟩

/-! ### an operation on a frame of which more is known -/
section mono
variable {E : Env} {h : AHeap} {fr fr' : Fr}
def FrLe (fr fr' : Fr) : Prop := ∀ t v, fr.get t = some v → fr'.get t = some v

theorem opnd_le (hl : FrLe fr fr') {x : Operand} {v : AV} (hx : opnd fr x = some v) : opnd fr' x = some v := by
  cases x with
  | tmp t => exact hl t v hx
  | _ => exact hx
theorem opnds_le (hl : FrLe fr fr') : ∀ {l : List Operand} {vs : List AV}, opnds fr l = some vs → opnds fr' l = some vs
  | [], vs, hx => hx
  | x :: l, vs, hx => by
    simp only [opnds] at hx ⊢
    split at hx
    · rename_i v hv
      split at hx
      · rename_i ws hws
        rw [opnd_le hl hv]
        simp only [opnds_le hl hws]
        exact hx
      · cases hx
    · cases hx
theorem partsA_le (hl : FrLe fr fr') : ∀ {l : List (Nat × Operand)} {vs : List (Nat × AV)}, partsA fr l = some vs → partsA fr' l = some vs
  | [], vs, hx => hx
  | (i, x) :: l, vs, hx => by
    simp only [partsA] at hx ⊢
    split at hx
    · rename_i v hv
      split at hx
      · rename_i ws hws
        rw [opnd_le hl hv]
        simp only [partsA_le hl hws]
        exact hx
      · cases hx
    · cases hx
theorem optA_le (hl : FrLe fr fr') {x : Option Operand} {v : Option AV} (hx : optA fr x = some v) : optA fr' x = some v := by
  cases x with
  | none => exact hx
  | some x =>
    simp only [optA] at hx ⊢
    split at hx
    · rename_i u hu
      rw [opnd_le hl hu]; exact hx
    · cases hx

theorem pick_le (hl : FrLe fr fr') {c a b : Operand} {r : OpR} (hx : opA E h fr (.pick c a b) = some r) : opA E h fr' (.pick c a b) = some r := by
  simp only [opA] at hx ⊢
  obtain ⟨v, hv, hx⟩ := o1I hx
  rw [opnd_le hl hv]
  simp only [o1]
  unfold pickA at hx ⊢
  split at hx
  · split at hx
    · rename_i hu; rw [opnd_le hl hu]; exact hx
    · cases hx
  · split at hx
    · rename_i hu; rw [opnd_le hl hu]; exact hx
    · cases hx
  · cases hx

theorem opA_le (hl : FrLe fr fr') {op : Op} {r : OpR} (hx : opA E h fr op = some r) : opA E h fr' op = some r := by
  cases op <;> first | exact pick_le hl hx | (simp only [opA] at hx ⊢; done) | skip
  all_goals simp only [opA] at hx ⊢
  all_goals first
    | exact hx
    | (obtain ⟨v, hv, rfl⟩ := oValI hx; rw [opnd_le hl hv]; rfl)
    | (obtain ⟨v, hv, hx⟩ := o1I hx; rw [opnd_le hl hv]; exact hx)
    | (obtain ⟨v, u, hv, hu, hx⟩ := o2I hx; rw [opnd_le hl hv, opnd_le hl hu]; exact hx)
    | (obtain ⟨v, hv, hx⟩ := oPI hx; rw [partsA_le hl hv]; exact hx)
    | skip
  case makeFunc fn a b =>
    obtain ⟨v, hv, hx⟩ := oLI hx
    obtain ⟨u, hu, hx⟩ := oLI hx
    rw [opnds_le hl hv, opnds_le hl hu]; exact hx
  case slice t x lo hi mx =>
    obtain ⟨v, hv, hx⟩ := o1I hx
    obtain ⟨a, ha, hx⟩ := oOI hx
    obtain ⟨b, hb, hx⟩ := oOI hx
    obtain ⟨c, hc, hx⟩ := oOI hx
    rw [opnd_le hl hv, optA_le hl ha, optA_le hl hb, optA_le hl hc]; exact hx
  case mapUpdate t m k x =>
    obtain ⟨v, u, hv, hu, hx⟩ := o2I hx
    obtain ⟨w, hw, hx⟩ := o1I hx
    rw [opnd_le hl hv, opnd_le hl hu, opnd_le hl hw]; exact hx
  case call c =>
    unfold callOpA at hx ⊢
    split at hx
    · obtain ⟨v, hv, hx⟩ := oLI hx
      rename_i hc
      simp only [hc, opnds_le hl hv]; exact hx
    · rename_i hc
      obtain ⟨v, hv, hx⟩ := o1I hx
      obtain ⟨u, hu, hx⟩ := oLI hx
      simp only [hc, opnd_le hl hv, opnds_le hl hu]; exact hx
    · cases hx
  case defer c =>
    unfold deferOpA at hx ⊢
    split at hx
    · rename_i hc
      obtain ⟨v, hv, hx⟩ := o1I hx
      obtain ⟨u, hu, hx⟩ := oLI hx
      simp only [hc, opnd_le hl hv, opnds_le hl hu]; exact hx
    · cases hx

theorem want_le (hl : FrLe fr fr') {ops : Array Oper} {o : Oper} {b : Bool} (hx : want ops fr o = some b) : want ops fr' o = some b := by
  obtain ⟨dst, op, ty, pos, after, guard⟩ := o
  cases guard with
  | none => exact hx
  | some g =>
    replace hx : wantD fr g.2 ((ops[g.1]?).bind (·.dst)) = some b := hx
    show wantD fr' g.2 ((ops[g.1]?).bind (·.dst)) = some b
    cases hd : (ops[g.1]?).bind (·.dst) with
    | none => rw [hd] at hx; exact hx
    | some d =>
      rw [hd] at hx
      simp only [wantD] at hx ⊢
      cases hg : fr.get d with
      | none => rw [hg] at hx; simp [wantV] at hx
      | some v => rw [hg] at hx; rw [hl d v hg]; exact hx

theorem resultsA_le (hl : FrLe fr fr') : ∀ {l : List ResultVar} {vs : List AV}, resultsA E h fr l = some vs → resultsA E h fr' l = some vs
  | [], vs, hx => hx
  | .tmp t :: l, vs, hx => by
    simp only [resultsA] at hx ⊢
    split at hx
    · rename_i v hv
      split at hx
      · rename_i ws hws
        rw [hl t v hv]
        simp only [resultsA_le hl hws]
        exact hx
      · cases hx
    · cases hx
  | .cell a t :: l, vs, hx => by
    simp only [resultsA] at hx ⊢
    split at hx
    · rename_i v hv
      split at hx
      · rename_i u hu
        split at hx
        · rename_i ws hws
          rw [hl a v hv]
          simp only [hu, resultsA_le hl hws]
          exact hx
        · cases hx
      · cases hx
    · cases hx
end mono

/-! ### frames of a walk: a list of slots -/
def TL.fr (l : TL) : Fr := .mk 0 l .lf
theorem TL.fr_get (l : TL) (t : Nat) : l.fr.get t = l.get t := by
  rw [TL.fr, Fr.get_mk]; simp
def big : Nat := 1000000
def FrOk (l : TL) (fr : Fr) : Prop := ∃ lo, fr = .mk big .nil lo ∧ ∀ t v, l.get t = some v → t < big ∧ lo.get t = some v
theorem FrOk.le {l : TL} {fr : Fr} (h : FrOk l fr) : FrLe l.fr fr := by
  obtain ⟨lo, rfl, hl⟩ := h
  intro t v e
  rw [TL.fr_get] at e
  rw [Fr.get_mk, if_neg (by have := (hl t v e).1; omega)]
  exact (hl t v e).2
theorem FrOk.set {l : TL} {fr : Fr} (h : FrOk l fr) {t : Nat} (ht : t < big) (v : AV) : FrOk (.cons t v l) (fr.set t v) := by
  obtain ⟨lo, rfl, hl⟩ := h
  refine ⟨lo.set t v, ?_, fun u w e => ?_⟩
  · have : Nat.ble big t = false := by
      rw [← Bool.not_eq_true]; simp only [Nat.ble_eq]; omega
    show @Bool.casesOn (fun _ => Fr) (Nat.ble big t) (.mk big .nil (lo.set t v)) (.mk big (.cons t v .nil) lo) = _
    rw [this]
  · rw [TL.get_cons] at e
    rw [PT.get_set]
    split at e
    · rename_i e1; subst e1; cases e; exact ⟨ht, by simp⟩
    · rename_i e1
      have := hl u w e
      exact ⟨this.1, by rw [if_neg (fun x => e1 x.symm)]; exact this.2⟩
theorem FrOk.drop {l : TL} {fr : Fr} (h : FrOk l fr) : FrOk l fr.drop := by
  obtain ⟨lo, rfl, hl⟩ := h
  exact ⟨lo, rfl, hl⟩
/-- what is not needed any more -/
def TL.Le (l l' : TL) : Prop := ∀ t v, l.get t = some v → l'.get t = some v
theorem FrOk.weak {l l' : TL} {fr : Fr} (h : FrOk l' fr) (hl : l.Le l') : FrOk l fr := by
  obtain ⟨lo, e, hh⟩ := h
  exact ⟨lo, e, fun t v x => hh t v (hl t v x)⟩

def TL.ofArgs : Nat → List AV → TL
  | _, [] => .nil
  | i, v :: l => .cons i v (TL.ofArgs (i + 1) l)
theorem TL.get_ofArgs : ∀ (l : List AV) (i t : Nat) (v : AV), (TL.ofArgs i l).get t = some v → i ≤ t ∧ t < i + l.length ∧ l[t - i]? = some v
  | [], i, t, v, h => by simp [TL.ofArgs, TL.get_nil] at h
  | x :: l, i, t, v, h => by
    rw [TL.ofArgs, TL.get_cons] at h
    split at h
    · rename_i e; subst e; cases h; simp
    · obtain ⟨h1, h2, h3⟩ := TL.get_ofArgs l (i + 1) t v h
      refine ⟨by omega, by simp; omega, ?_⟩
      have : t - i = (t - (i + 1)) + 1 := by omega
      rw [this]; simpa using h3
theorem FrOk.args (l : List AV) (hn : l.length ≤ big) : FrOk (TL.ofArgs 0 l) (.mk big .nil (PT.ofList .lf 0 l)) :=
  ⟨_, rfl, fun t v e => by
    obtain ⟨h1, h2, h3⟩ := TL.get_ofArgs l 0 t v e
    refine ⟨by omega, ?_⟩
    rw [PT.get_ofList, if_pos ⟨Nat.zero_le _, by omega⟩]
    exact h3⟩

/-! ### calls -/
structure Mach where
  E : Env
  I : FuncId → Option (List AV → AHeap → Option (AV × AHeap))
noncomputable def Mach.calls (X : Mach) (S n : Nat) : CallT := callsA X.E (fun _ => big) X.I S n

/-- A call does so, whatever the bounds, if they are great. -/
def Does (X : Mach) (c : ACall) (h : AHeap) (v : AV) (h' : AHeap) : Prop := ∃ N, ∀ S n, N ≤ S → N ≤ n → X.calls S n c h = some (v, h')
def Will (X : Mach) (f : FuncId) (as : List AV) (h : AHeap) (Q : AV → AHeap → Prop) : Prop := ∃ v h', Does X (.fn f as) h v h' ∧ Q v h'
theorem Will.mono {X : Mach} {f : FuncId} {as : List AV} {h : AHeap} {Q Q' : AV → AHeap → Prop} (w : Will X f as h Q) (hq : ∀ v h', Q v h' → Q' v h') : Will X f as h Q' := by
  obtain ⟨v, h', d, q⟩ := w
  exact ⟨v, h', d, hq v h' q⟩

/-- deferred calls, done -/
def Undo (X : Mach) (ds : List AD) (h h' : AHeap) : Prop := ∃ N, ∀ S n, N ≤ S → N ≤ n → ∀ m, 900 ≤ m → ds.length ≤ 900 → deferA (X.calls S n) (m + ds.length) ds h = some h'
theorem Undo.nil (X : Mach) (h : AHeap) : Undo X [] h h := ⟨0, fun S n _ _ m _ _ => by cases m <;> rfl⟩
theorem Undo.fn {X : Mach} {f : FuncId} {d : ADef} {ds : List AD} {h h₁ h' : AHeap} {v : AV} (hf : d.fn = .func f) (hc : Does X (.fn f (d.args ++ d.captured)) h v h₁) (hu : Undo X ds h₁ h') : Undo X (.fn d :: ds) h h' := by
  obtain ⟨N, hN⟩ := hc
  obtain ⟨M, hM⟩ := hu
  refine ⟨N + M, fun S n hS hn m hm hl => ?_⟩
  have e : m + (AD.fn d :: ds).length = (m + ds.length) + 1 := by simp; omega
  rw [e]
  simp only [deferA, hf, hN S n (by omega) (by omega)]
  exact hM S n (by omega) (by omega) m hm (by simp at hl; omega)

/-! ### a region -/
section reg
variable (X : Mach) (nt : Nat) (ops : Array Oper)
/-- In the order of the text, from a list of operations on. -/
def Reg (rest : List Oper) (l : TL) (ds : List AD) (h : AHeap) (l' : TL) (ds' : List AD) (h' : AHeap) : Prop :=
  ∃ N, ∀ S n, N ≤ S → N ≤ n → ∀ fr, FrOk l fr → ∃ fr', FrOk l' fr' ∧ opsA X.E (X.calls S n) nt none ops rest fr ds h = some ⟨fr', ds', h'⟩
variable {X nt ops}
variable {o : Oper} {rest : List Oper} {l l' : TL} {ds ds' : List AD} {h h' h₁ : AHeap} {v : AV} {d : Nat}

theorem Reg.nil : Reg X nt ops [] l ds h l ds h := ⟨0, fun S n _ _ fr hf => ⟨fr, hf, rfl⟩⟩

theorem opsA_cons {E : Env} {C : CallT} {rnd : Option Nat} {fr : Fr} : opsA E C nt rnd ops (o :: rest) fr ds h = opsS E C nt rnd (opsA E C nt rnd ops rest) ops o fr ds h := rfl
theorem opsS_want {β : Type} {E : Env} {C : CallT} {rnd : Option Nat} {ih : Fr → List AD → AHeap → Option β} {fr : Fr} (hw : want ops fr o = some true) : opsS E C nt rnd ih ops o fr ds h = doOp E C nt rnd ih o fr ds h := by
  unfold opsS; rw [hw]
theorem opsS_skip {β : Type} {E : Env} {C : CallT} {rnd : Option Nat} {ih : Fr → List AD → AHeap → Option β} {fr : Fr} (hw : want ops fr o = some false) : opsS E C nt rnd ih ops o fr ds h = keep nt ih o.dst (.tuple []) fr ds h := by
  unfold opsS; rw [hw]
theorem doOp_some {β : Type} {E : Env} {C : CallT} {rnd : Option Nat} {ih : Fr → List AD → AHeap → Option β} {fr : Fr} {r : OpR} (hx : opA E h fr o.op = some r) : doOp E C nt rnd ih o fr ds h = doneR C nt rnd ih o.dst fr ds h r := by
  unfold doOp; rw [hx]
theorem keep_some {β : Type} {ih : Fr → List AD → AHeap → Option β} {fr : Fr} (hd : Nat.ble (d + 1) nt = true) : keep nt ih (some d) v fr ds h = ih (fr.set d v) ds h := by
  show @Bool.casesOn (fun _ => Option β) (Nat.ble (Nat.add d 1) nt) none (ih (fr.set d v) ds h) = _
  have : Nat.ble (Nat.add d 1) nt = true := hd
  rw [this]
theorem keep_none {β : Type} {ih : Fr → List AD → AHeap → Option β} {fr : Fr} : keep nt ih none v fr ds h = ih fr ds h := rfl

/-- what is kept of a result -/
def TL.put (l : TL) (dst : Option Nat) (v : AV) : TL := match dst with
  | some d => .cons d v l
  | none => l
def dstOk (nt : Nat) (dst : Option Nat) : Bool := match dst with
  | some d => Nat.ble (d + 1) nt && Nat.ble (d + 1) big
  | none => true
theorem keep_ok {β : Type} {ih : Fr → List AD → AHeap → Option β} {fr : Fr} {dst : Option Nat} (hd : dstOk nt dst = true) (hf : FrOk l fr) : ∃ fr₁, FrOk (l.put dst v) fr₁ ∧ keep nt ih dst v fr ds h = ih fr₁ ds h := by
  cases dst with
  | none => exact ⟨fr, hf, rfl⟩
  | some d =>
    simp only [dstOk, Bool.and_eq_true] at hd
    exact ⟨_, hf.set (by have := hd.2; simp at this; omega) v, keep_some hd.1⟩

theorem Reg.skip (hw : want ops l.fr o = some false) (hd : dstOk nt o.dst = true) (hr : Reg X nt ops rest (l.put o.dst (.tuple [])) ds h l' ds' h') : Reg X nt ops (o :: rest) l ds h l' ds' h' := by
  obtain ⟨N, hN⟩ := hr
  refine ⟨N, fun S n hS hn fr hf => ?_⟩
  rw [opsA_cons, opsS_skip (want_le hf.le hw)]
  obtain ⟨fr₁, h1, e⟩ := keep_ok (ih := opsA X.E (X.calls S n) nt none ops rest) (v := .tuple []) (ds := ds) (h := h) hd hf
  rw [e]
  exact hN S n hS hn fr₁ h1
theorem Reg.val (hw : want ops l.fr o = some true) (ho : opA X.E h l.fr o.op = some (.val v)) (hd : dstOk nt o.dst = true) (hr : Reg X nt ops rest (l.put o.dst v) ds h l' ds' h') : Reg X nt ops (o :: rest) l ds h l' ds' h' := by
  obtain ⟨N, hN⟩ := hr
  refine ⟨N, fun S n hS hn fr hf => ?_⟩
  rw [opsA_cons, opsS_want (want_le hf.le hw), doOp_some (opA_le hf.le ho)]
  obtain ⟨fr₁, h1, e⟩ := keep_ok (ih := opsA X.E (X.calls S n) nt none ops rest) (v := v) (ds := ds) (h := h) hd hf
  show ∃ fr', FrOk l' fr' ∧ keep nt (opsA X.E (X.calls S n) nt none ops rest) o.dst v fr ds h = _
  rw [e]
  exact hN S n hS hn fr₁ h1
theorem Reg.mem (hw : want ops l.fr o = some true) (ho : opA X.E h l.fr o.op = some (.mem v h₁)) (hd : dstOk nt o.dst = true) (hr : Reg X nt ops rest (l.put o.dst v) ds h₁ l' ds' h') : Reg X nt ops (o :: rest) l ds h l' ds' h' := by
  obtain ⟨N, hN⟩ := hr
  refine ⟨N, fun S n hS hn fr hf => ?_⟩
  rw [opsA_cons, opsS_want (want_le hf.le hw), doOp_some (opA_le hf.le ho)]
  obtain ⟨fr₁, h1, e⟩ := keep_ok (ih := opsA X.E (X.calls S n) nt none ops rest) (v := v) (ds := ds) (h := h₁) hd hf
  show ∃ fr', FrOk l' fr' ∧ keep nt (opsA X.E (X.calls S n) nt none ops rest) o.dst v fr ds h₁ = _
  rw [e]
  exact hN S n hS hn fr₁ h1
theorem Reg.call {f : FuncId} {as : List AV} (hw : want ops l.fr o = some true) (ho : opA X.E h l.fr o.op = some (.call f as)) (hd : dstOk nt o.dst = true) (hc : Does X (.fn f as) h v h₁)
    (hr : Reg X nt ops rest (l.put o.dst v) ds h₁ l' ds' h') : Reg X nt ops (o :: rest) l ds h l' ds' h' := by
  obtain ⟨N, hN⟩ := hr
  obtain ⟨M, hM⟩ := hc
  refine ⟨N + M, fun S n hS hn fr hf => ?_⟩
  rw [opsA_cons, opsS_want (want_le hf.le hw), doOp_some (opA_le hf.le ho)]
  obtain ⟨fr₁, h1, e⟩ := keep_ok (ih := opsA X.E (X.calls S n) nt none ops rest) (v := v) (ds := ds) (h := h₁) hd hf
  show ∃ fr', FrOk l' fr' ∧ after nt (opsA X.E (X.calls S n) nt none ops rest) o.dst fr ds (X.calls S n (.fn f as) h) = _
  rw [hM S n (by omega) (by omega)]
  show ∃ fr', FrOk l' fr' ∧ keep nt (opsA X.E (X.calls S n) nt none ops rest) o.dst v fr ds h₁ = _
  rw [e]
  exact hN S n (by omega) (by omega) fr₁ h1
theorem Reg.dfr {e : ADef} (hw : want ops l.fr o = some true) (ho : opA X.E h l.fr o.op = some (.dfr e)) (hd : dstOk nt o.dst = true)
    (hr : Reg X nt ops rest (l.put o.dst (.tuple [])) (.fn e :: ds) h l' ds' h') : Reg X nt ops (o :: rest) l ds h l' ds' h' := by
  obtain ⟨N, hN⟩ := hr
  refine ⟨N, fun S n hS hn fr hf => ?_⟩
  rw [opsA_cons, opsS_want (want_le hf.le hw), doOp_some (opA_le hf.le ho)]
  obtain ⟨fr₁, h1, e'⟩ := keep_ok (ih := opsA X.E (X.calls S n) nt none ops rest) (v := .tuple []) (ds := .fn e :: ds) (h := h) hd hf
  show ∃ fr', FrOk l' fr' ∧ keep nt (opsA X.E (X.calls S n) nt none ops rest) o.dst (.tuple []) fr (.fn e :: ds) h = _
  rw [e']
  exact hN S n hS hn fr₁ h1
theorem Reg.weak {l₁ : TL} (hl : l₁.Le l) (hr : Reg X nt ops rest l₁ ds h l' ds' h') : Reg X nt ops rest l ds h l' ds' h' := by
  obtain ⟨N, hN⟩ := hr
  exact ⟨N, fun S n hS hn fr hf => hN S n hS hn fr (hf.weak hl)⟩
end reg

/-! ### a drawn region -/
mutual
theorem beqAV_refl : ∀ v : AV, beqAV v v = true
  | .int k n => by simp [beqAV]
  | .bool b => by simp [beqAV]
  | .str s => by simp [beqAV]
  | .nilPtr => rfl
  | .ptr a o => by simp [beqAV]
  | .nilSlice => rfl
  | .slice a o n c => by simp [beqAV]
  | .slice0 a => by simp [beqAV]
  | .nilMap => rfl
  | .map a => by simp [beqAV]
  | .func f a c => by simp [beqAV, beqAVs_refl a, beqAVs_refl c]
  | .nilFunc => rfl
  | .iface t v => by simp [beqAV, beqAV_refl v]
  | .nilIface => rfl
  | .agg a => by simp [beqAV, beqAVs_refl a]
  | .tuple a => by simp [beqAV, beqAVs_refl a]
  | .opq i => by simp [beqAV]
theorem beqAVs_refl : ∀ l : List AV, beqAVs l l = true
  | [] => rfl
  | a :: l => by simp [beqAVs, beqAV_refl a, beqAVs_refl l]
end

/-- What was looked at, on frames of which more is known. -/
inductive SL : List Seen → List Seen → Prop where
  | nil : SL [] []
  | cons (i : Nat) (op : Op) (v : AV) (fr fr' : Fr) (l m : List Seen) (hf : FrLe fr fr') (hl : SL l m) : SL (⟨i, op, fr, v⟩ :: l) (⟨i, op, fr', v⟩ :: m)

theorem seenIn_of {E : Env} {h : AHeap} {x : Seen} (hx : opA E h x.fr x.op = some (.val x.v)) : seenIn E h x = true := by
  simp only [seenIn, hx, beqAV_refl]

/-- The same is seen wherever the look may stand. -/
def SeenP (E : Env) (ms : PT Nat) (x : Seen) (after : AHeap) : List (Nat × AHeap) → Prop
  | [] => True
  | (e, h) :: l => ((match Nat.ble (Nat.add e 1) x.i with
      | true => bit ((ms.get x.i).getD 0) e
      | false => bit ((ms.get e).getD 0) x.i) = true ∨ (opA E h x.fr x.op = some (.val x.v) ∧ opA E after x.fr x.op = some (.val x.v))) ∧ SeenP E ms x h l
def SeenPs (E : Env) (ms : PT Nat) (after : AHeap) (hs : List (Nat × AHeap)) : List Seen → Prop
  | [] => True
  | x :: l => SeenP E ms x after hs ∧ SeenPs E ms after hs l

theorem SeenP.ok {E : Env} {ms : PT Nat} {i : Nat} {op : Op} {v : AV} {fr fr' : Fr} (hf : FrLe fr fr') : ∀ (hs : List (Nat × AHeap)) (after : AHeap), SeenP E ms ⟨i, op, fr, v⟩ after hs → seenOk E ms ⟨i, op, fr', v⟩ after hs = true
  | [], _, _ => rfl
  | (e, h) :: l, after, ⟨h1, h2⟩ => by
    simp only [seenOk, Bool.and_eq_true, Bool.or_eq_true]
    refine ⟨?_, SeenP.ok hf l h h2⟩
    rcases h1 with h1 | ⟨h1, h3⟩
    · exact .inl h1
    · exact .inr ⟨seenIn_of (opA_le hf h1), seenIn_of (opA_le hf h3)⟩
theorem SeenPs.ok {E : Env} {ms : PT Nat} {after : AHeap} {hs : List (Nat × AHeap)} : ∀ {ss ss' : List Seen}, SL ss ss' → SeenPs E ms after hs ss → ss'.all (fun x => seenOk E ms x after hs) = true
  | _, _, .nil, _ => rfl
  | _, _, .cons i op v fr fr' l m hf hl, ⟨h1, h2⟩ => by
    simp only [List.all_cons, Bool.and_eq_true]
    exact ⟨SeenP.ok hf hs after h1, SeenPs.ok hl h2⟩

section regd
variable (X : Mach) (nt : Nat) (ops : Array Oper)
def RegD (rest : List Oper) (i : Nat) (ss : List Seen) (hs : List (Nat × AHeap)) (l : TL) (ds : List AD) (h : AHeap) (l' : TL) (ds' : List AD) (h' : AHeap) (ssF : List Seen) (hsF : List (Nat × AHeap)) : Prop :=
  ∃ N, ∀ S n, N ≤ S → N ≤ n → ∀ fr ss₀, FrOk l fr → SL ss ss₀ →
    ∃ fr' ss₁, FrOk l' fr' ∧ SL ssF ss₁ ∧ opsD X.E (X.calls S n) nt none ops rest i ss₀ hs fr ds h = some (⟨fr', ds', h'⟩, ss₁, hsF)
variable {X nt ops}
variable {o : Oper} {rest : List Oper} {l l' : TL} {ds ds' : List AD} {h h' h₁ : AHeap} {v : AV} {i : Nat} {ss ssF : List Seen} {hs hsF : List (Nat × AHeap)}

theorem RegD.nil : RegD X nt ops [] i ss hs l ds h l ds h ss hs := ⟨0, fun S n _ _ fr ss₀ hf hs => ⟨fr, ss₀, hf, hs, rfl⟩⟩
theorem opsD_cons {E : Env} {C : CallT} {rnd : Option Nat} {fr : Fr} : opsD E C nt rnd ops (o :: rest) i ss hs fr ds h = opsSD E C nt rnd ops o (opsD E C nt rnd ops rest) i ss hs fr ds h := rfl
theorem opsSD_want {E : Env} {C : CallT} {rnd : Option Nat} {ih : KD} {fr : Fr} (hw : want ops fr o = some true) : opsSD E C nt rnd ops o ih i ss hs fr ds h = oneD E C nt rnd o ih i ss hs fr ds h := by
  unfold opsSD; rw [hw]
theorem opsSD_skip {E : Env} {C : CallT} {rnd : Option Nat} {ih : KD} {fr : Fr} (hw : want ops fr o = some false) : opsSD E C nt rnd ops o ih i ss hs fr ds h = keep nt (ih (i + 1) ss hs) o.dst (.tuple []) fr ds h := by
  unfold opsSD; rw [hw]

theorem RegD.skip (hw : want ops l.fr o = some false) (hd : dstOk nt o.dst = true) (hr : RegD X nt ops rest (i + 1) ss hs (l.put o.dst (.tuple [])) ds h l' ds' h' ssF hsF) : RegD X nt ops (o :: rest) i ss hs l ds h l' ds' h' ssF hsF := by
  obtain ⟨N, hN⟩ := hr
  refine ⟨N, fun S n hS hn fr ss₀ hf hsl => ?_⟩
  rw [opsD_cons, opsSD_skip (want_le hf.le hw)]
  obtain ⟨fr₁, h1, e⟩ := keep_ok (ih := opsD X.E (X.calls S n) nt none ops rest (i + 1) ss₀ hs) (v := .tuple []) (ds := ds) (h := h) hd hf
  rw [e]
  exact hN S n hS hn fr₁ ss₀ h1 hsl
theorem RegD.pure (hw : want ops l.fr o = some true) (hc : cls X.E o.op = .pure) (ho : opA X.E h l.fr o.op = some (.val v)) (hd : dstOk nt o.dst = true) (hr : RegD X nt ops rest (i + 1) ss hs (l.put o.dst v) ds h l' ds' h' ssF hsF) : RegD X nt ops (o :: rest) i ss hs l ds h l' ds' h' ssF hsF := by
  obtain ⟨N, hN⟩ := hr
  refine ⟨N, fun S n hS hn fr ss₀ hf hsl => ?_⟩
  rw [opsD_cons, opsSD_want (want_le hf.le hw)]
  unfold oneD
  rw [hc, opA_le hf.le ho]
  obtain ⟨fr₁, h1, e⟩ := keep_ok (ih := opsD X.E (X.calls S n) nt none ops rest (i + 1) ss₀ hs) (v := v) (ds := ds) (h := h) hd hf
  show ∃ fr' ss₁, FrOk l' fr' ∧ SL ssF ss₁ ∧ keep nt (opsD X.E (X.calls S n) nt none ops rest (i + 1) ss₀ hs) o.dst v fr ds h = _
  rw [e]
  exact hN S n hS hn fr₁ ss₀ h1 hsl
theorem RegD.look (hw : want ops l.fr o = some true) (hc : cls X.E o.op = .look) (ho : opA X.E h l.fr o.op = some (.val v)) (hd : dstOk nt o.dst = true) (hr : RegD X nt ops rest (i + 1) (⟨i, o.op, l.fr, v⟩ :: ss) hs (l.put o.dst v) ds h l' ds' h' ssF hsF) : RegD X nt ops (o :: rest) i ss hs l ds h l' ds' h' ssF hsF := by
  obtain ⟨N, hN⟩ := hr
  refine ⟨N, fun S n hS hn fr ss₀ hf hsl => ?_⟩
  rw [opsD_cons, opsSD_want (want_le hf.le hw)]
  unfold oneD
  rw [hc, opA_le hf.le ho]
  obtain ⟨fr₁, h1, e⟩ := keep_ok (ih := opsD X.E (X.calls S n) nt none ops rest (i + 1) (⟨i, o.op, fr, v⟩ :: ss₀) hs) (v := v) (ds := ds) (h := h) hd hf
  show ∃ fr' ss₁, FrOk l' fr' ∧ SL ssF ss₁ ∧ keep nt (opsD X.E (X.calls S n) nt none ops rest (i + 1) (⟨i, o.op, fr, v⟩ :: ss₀) hs) o.dst v fr ds h = _
  rw [e]
  exact hN S n hS hn fr₁ _ h1 (.cons _ _ _ _ _ _ _ hf.le hsl)
theorem RegD.alloc (hw : want ops l.fr o = some true) (hc : cls X.E o.op = .alloc) (ho : opA X.E h l.fr o.op = some (.mem v h₁)) (hd : dstOk nt o.dst = true) (hr : RegD X nt ops rest (i + 1) ss hs (l.put o.dst v) ds h₁ l' ds' h' ssF hsF) : RegD X nt ops (o :: rest) i ss hs l ds h l' ds' h' ssF hsF := by
  obtain ⟨N, hN⟩ := hr
  refine ⟨N, fun S n hS hn fr ss₀ hf hsl => ?_⟩
  rw [opsD_cons, opsSD_want (want_le hf.le hw)]
  unfold oneD
  rw [hc, opA_le hf.le ho]
  obtain ⟨fr₁, h1, e⟩ := keep_ok (ih := opsD X.E (X.calls S n) nt none ops rest (i + 1) ss₀ hs) (v := v) (ds := ds) (h := h₁) hd hf
  show ∃ fr' ss₁, FrOk l' fr' ∧ SL ssF ss₁ ∧ keep nt (opsD X.E (X.calls S n) nt none ops rest (i + 1) ss₀ hs) o.dst v fr ds h₁ = _
  rw [e]
  exact hN S n hS hn fr₁ ss₀ h1 hsl
theorem RegD.effVal (hw : want ops l.fr o = some true) (hc : cls X.E o.op = .eff) (ho : opA X.E h l.fr o.op = some (.val v)) (hd : dstOk nt o.dst = true) (hr : RegD X nt ops rest (i + 1) ss ((i, h) :: hs) (l.put o.dst v) ds h l' ds' h' ssF hsF) : RegD X nt ops (o :: rest) i ss hs l ds h l' ds' h' ssF hsF := by
  obtain ⟨N, hN⟩ := hr
  refine ⟨N, fun S n hS hn fr ss₀ hf hsl => ?_⟩
  rw [opsD_cons, opsSD_want (want_le hf.le hw)]
  unfold oneD
  rw [hc]
  obtain ⟨fr₁, h1, e⟩ := keep_ok (ih := opsD X.E (X.calls S n) nt none ops rest (i + 1) ss₀ ((i, h) :: hs)) (v := v) (ds := ds) (h := h) hd hf
  show ∃ fr' ss₁, FrOk l' fr' ∧ SL ssF ss₁ ∧ doOp X.E (X.calls S n) nt none (opsD X.E (X.calls S n) nt none ops rest (i + 1) ss₀ ((i, h) :: hs)) o fr ds h = _
  rw [doOp_some (opA_le hf.le ho)]
  show ∃ fr' ss₁, FrOk l' fr' ∧ SL ssF ss₁ ∧ keep nt (opsD X.E (X.calls S n) nt none ops rest (i + 1) ss₀ ((i, h) :: hs)) o.dst v fr ds h = _
  rw [e]
  exact hN S n hS hn fr₁ ss₀ h1 hsl
theorem RegD.eff (hw : want ops l.fr o = some true) (hc : cls X.E o.op = .eff) (ho : opA X.E h l.fr o.op = some (.mem v h₁)) (hd : dstOk nt o.dst = true) (hr : RegD X nt ops rest (i + 1) ss ((i, h) :: hs) (l.put o.dst v) ds h₁ l' ds' h' ssF hsF) : RegD X nt ops (o :: rest) i ss hs l ds h l' ds' h' ssF hsF := by
  obtain ⟨N, hN⟩ := hr
  refine ⟨N, fun S n hS hn fr ss₀ hf hsl => ?_⟩
  rw [opsD_cons, opsSD_want (want_le hf.le hw)]
  unfold oneD
  rw [hc]
  obtain ⟨fr₁, h1, e⟩ := keep_ok (ih := opsD X.E (X.calls S n) nt none ops rest (i + 1) ss₀ ((i, h) :: hs)) (v := v) (ds := ds) (h := h₁) hd hf
  show ∃ fr' ss₁, FrOk l' fr' ∧ SL ssF ss₁ ∧ doOp X.E (X.calls S n) nt none (opsD X.E (X.calls S n) nt none ops rest (i + 1) ss₀ ((i, h) :: hs)) o fr ds h = _
  rw [doOp_some (opA_le hf.le ho)]
  show ∃ fr' ss₁, FrOk l' fr' ∧ SL ssF ss₁ ∧ keep nt (opsD X.E (X.calls S n) nt none ops rest (i + 1) ss₀ ((i, h) :: hs)) o.dst v fr ds h₁ = _
  rw [e]
  exact hN S n hS hn fr₁ ss₀ h1 hsl
theorem RegD.call {f : FuncId} {as : List AV} (hw : want ops l.fr o = some true) (hc : cls X.E o.op = .eff) (ho : opA X.E h l.fr o.op = some (.call f as)) (hd : dstOk nt o.dst = true) (hcl : Does X (.fn f as) h v h₁)
    (hr : RegD X nt ops rest (i + 1) ss ((i, h) :: hs) (l.put o.dst v) ds h₁ l' ds' h' ssF hsF) : RegD X nt ops (o :: rest) i ss hs l ds h l' ds' h' ssF hsF := by
  obtain ⟨N, hN⟩ := hr
  obtain ⟨M, hM⟩ := hcl
  refine ⟨N + M, fun S n hS hn fr ss₀ hf hsl => ?_⟩
  rw [opsD_cons, opsSD_want (want_le hf.le hw)]
  unfold oneD
  rw [hc]
  obtain ⟨fr₁, h1, e⟩ := keep_ok (ih := opsD X.E (X.calls S n) nt none ops rest (i + 1) ss₀ ((i, h) :: hs)) (v := v) (ds := ds) (h := h₁) hd hf
  show ∃ fr' ss₁, FrOk l' fr' ∧ SL ssF ss₁ ∧ doOp X.E (X.calls S n) nt none (opsD X.E (X.calls S n) nt none ops rest (i + 1) ss₀ ((i, h) :: hs)) o fr ds h = _
  rw [doOp_some (opA_le hf.le ho)]
  show ∃ fr' ss₁, FrOk l' fr' ∧ SL ssF ss₁ ∧ after nt (opsD X.E (X.calls S n) nt none ops rest (i + 1) ss₀ ((i, h) :: hs)) o.dst fr ds (X.calls S n (.fn f as) h) = _
  rw [hM S n (by omega) (by omega)]
  show ∃ fr' ss₁, FrOk l' fr' ∧ SL ssF ss₁ ∧ keep nt (opsD X.E (X.calls S n) nt none ops rest (i + 1) ss₀ ((i, h) :: hs)) o.dst v fr ds h₁ = _
  rw [e]
  exact hN S n (by omega) (by omega) fr₁ ss₀ h1 hsl
end regd

/-! ### statements -/
section w
variable (X : Mach) (f : FuncId) (nt : Nat)
def W (todo : List Item) (l : TL) (ds : List AD) (h : AHeap) (Q : TL → List AD → AHeap → Prop) : Prop :=
  ∃ l' ds' h' j N, Q l' ds' h' ∧ (j = none ∨ j = some Code.ret) ∧
    ∀ S n k, N ≤ S → N ≤ n → N ≤ k → ∀ fr, FrOk l fr → ∃ fr', FrOk l' fr' ∧ runA X.E (X.calls S n) nt f none k todo fr ds h = some ⟨j, ⟨fr', ds', h'⟩⟩
variable {X f nt}
variable {k : List Item} {l : TL} {ds : List AD} {h : AHeap} {Q : TL → List AD → AHeap → Prop}

theorem W.step {todo : List Item} {x : Item} (he : ∀ C ih fr, itemC X.E C nt f none ih x k fr ds h = ih todo fr ds h) (w : W X f nt todo l ds h Q) : W X f nt (x :: k) l ds h Q := by
  obtain ⟨l', ds', h', j, N, q, hj, hN⟩ := w
  refine ⟨l', ds', h', j, N + 1, q, hj, fun S n k' hS hn hk fr hf => ?_⟩
  obtain ⟨m, rfl⟩ : ∃ m, k' = m + 1 := ⟨k' - 1, by omega⟩
  obtain ⟨fr', h1, h2⟩ := hN S n m (by omega) (by omega) (by omega) fr hf
  refine ⟨fr', h1, ?_⟩
  show itemC X.E (X.calls S n) nt f none (runA X.E (X.calls S n) nt f none m) x k fr ds h = _
  rw [he]; exact h2
theorem W.skip (w : W X f nt k l ds h Q) : W X f nt (.code .skip :: k) l ds h Q := W.step (fun _ _ _ => rfl) w
theorem W.seq {a b : Code} (w : W X f nt (.code a :: .code b :: k) l ds h Q) : W X f nt (.code (.seq a b) :: k) l ds h Q := W.step (fun _ _ _ => rfl) w
theorem W.block {i : Nat} {b : Code} (w : W X f nt (.code b :: .inBlock i :: k) l ds h Q) : W X f nt (.code (.block i b) :: k) l ds h Q := W.step (fun _ _ _ => rfl) w
theorem W.loop {b : Code} (w : W X f nt (.inLoop b :: k) l ds h Q) : W X f nt (.code (.loop b) :: k) l ds h Q := by
  obtain ⟨l', ds', h', j, N, q, hj, hN⟩ := w
  refine ⟨l', ds', h', j, N + 1, q, hj, fun S n k' hS hn hk fr hf => ?_⟩
  obtain ⟨m, rfl⟩ : ∃ m, k' = m + 1 := ⟨k' - 1, by omega⟩
  obtain ⟨fr', h1, h2⟩ := hN S n (m + 1) (by omega) (by omega) (by omega) fr hf
  exact ⟨fr', h1, h2⟩
theorem W.inLoop {b : Code} (w : W X f nt (.code b :: .inLoop b :: k) l ds h Q) : W X f nt (.inLoop b :: k) l ds h Q := W.step (fun _ _ _ => rfl) w
theorem W.inBlock {i : Nat} (w : W X f nt k l ds h Q) : W X f nt (.inBlock i :: k) l ds h Q := W.step (fun _ _ _ => rfl) w
theorem W.scope {b : Code} (w : W X f nt (.code b :: .inScope b :: k) l ds h Q) : W X f nt (.code (.scope b) :: k) l ds h Q := W.step (fun _ _ _ => rfl) w
theorem W.inScope {b : Code} (w : W X f nt k l ds h Q) : W X f nt (.inScope b :: k) l ds h Q := W.step (fun _ _ _ => rfl) w
theorem W.label {i : Nat} (w : W X f nt k l ds h Q) : W X f nt (.code (.label i) :: k) l ds h Q := W.step (fun _ _ _ => rfl) w
theorem W.exit {i : Nat} {k' : List Item} (he : exitTo i k = some k') (w : W X f nt k' l ds h Q) : W X f nt (.code (.exit i) :: k) l ds h Q := W.step (fun _ ih fr => by
  show jumpC none ih (exitTo i k) (.exit i) fr ds h = _
  rw [he]; rfl) w
theorem W.goto {i : Nat} {k' : List Item} (he : gotoIn i k = some k') (w : W X f nt k' l ds h Q) : W X f nt (.code (.goto i) :: k) l ds h Q := W.step (fun _ ih fr => by
  show jumpC none ih (gotoIn i k) (.goto i) fr ds h = _
  rw [he]; rfl) w
theorem W.ret (q : Q l ds h) : W X f nt (.code .ret :: k) l ds h Q := by
  refine ⟨l, ds, h, some .ret, 1, q, .inr rfl, fun S n k' hS hn hk fr hf => ?_⟩
  obtain ⟨m, rfl⟩ : ∃ m, k' = m + 1 := ⟨k' - 1, by omega⟩
  exact ⟨fr, hf, rfl⟩
theorem W.done (q : Q l ds h) : W X f nt [] l ds h Q := by
  refine ⟨l, ds, h, none, 1, q, .inl rfl, fun S n k' hS hn hk fr hf => ?_⟩
  obtain ⟨m, rfl⟩ : ∃ m, k' = m + 1 := ⟨k' - 1, by omega⟩
  exact ⟨fr, hf, rfl⟩
theorem W.weak {todo : List Item} {l₁ : TL} (hl : l₁.Le l) (w : W X f nt todo l₁ ds h Q) : W X f nt todo l ds h Q := by
  obtain ⟨l', ds', h', j, N, q, hj, hN⟩ := w
  exact ⟨l', ds', h', j, N, q, hj, fun S n k' hS hn hk fr hf => hN S n k' hS hn hk fr (hf.weak hl)⟩
theorem W.mono {todo : List Item} {Q' : TL → List AD → AHeap → Prop} (hq : ∀ l ds h, Q' l ds h → Q l ds h) (w : W X f nt todo l ds h Q') : W X f nt todo l ds h Q := by
  obtain ⟨l', ds', h', j, N, q, hj, hN⟩ := w
  exact ⟨l', ds', h', j, N, hq _ _ _ q, hj, hN⟩
theorem W.cond {c : Operand} {a b : Code} {t : Bool} (hc : opnd l.fr c = some (.bool t)) (ht : t = true → W X f nt (.code a :: k) l ds h Q) (hf : t = false → W X f nt (.code b :: k) l ds h Q) : W X f nt (.code (.cond c a b) :: k) l ds h Q := by
  cases t with
  | true =>
    obtain ⟨l', ds', h', j, N, q, hj, hN⟩ := ht rfl
    refine ⟨l', ds', h', j, N + 1, q, hj, fun S n k' hS hn hk fr hfr => ?_⟩
    obtain ⟨m, rfl⟩ : ∃ m, k' = m + 1 := ⟨k' - 1, by omega⟩
    obtain ⟨fr', h1, h2⟩ := hN S n m (by omega) (by omega) (by omega) fr hfr
    refine ⟨fr', h1, ?_⟩
    show condC (runA X.E (X.calls S n) nt f none m) (opnd fr c) a b k fr ds h = _
    rw [opnd_le hfr.le hc]; exact h2
  | false =>
    obtain ⟨l', ds', h', j, N, q, hj, hN⟩ := hf rfl
    refine ⟨l', ds', h', j, N + 1, q, hj, fun S n k' hS hn hk fr hfr => ?_⟩
    obtain ⟨m, rfl⟩ : ∃ m, k' = m + 1 := ⟨k' - 1, by omega⟩
    obtain ⟨fr', h1, h2⟩ := hN S n m (by omega) (by omega) (by omega) fr hfr
    refine ⟨fr', h1, ?_⟩
    show condC (runA X.E (X.calls S n) nt f none m) (opnd fr c) a b k fr ds h = _
    rw [opnd_le hfr.le hc]; exact h2
theorem W.region {id : Nat} {ops : Array Oper} {l₁ : TL} {ds₁ : List AD} {h₁ : AHeap} (hr : Reg X nt ops ops.toList l ds h l₁ ds₁ h₁) (w : W X f nt k l₁ ds₁ h₁ Q) : W X f nt (.code (.region id ops false) :: k) l ds h Q := by
  obtain ⟨M, hM⟩ := hr
  obtain ⟨l', ds', h', j, N, q, hj, hN⟩ := w
  refine ⟨l', ds', h', j, N + M + 1, q, hj, fun S n k' hS hn hk fr hfr => ?_⟩
  obtain ⟨m, rfl⟩ : ∃ m, k' = m + 1 := ⟨k' - 1, by omega⟩
  obtain ⟨fr₁, g1, g2⟩ := hM S n (by omega) (by omega) fr.drop hfr.drop
  obtain ⟨fr', h1, h2⟩ := hN S n m (by omega) (by omega) (by omega) fr₁ g1
  refine ⟨fr', h1, ?_⟩
  show regC (runA X.E (X.calls S n) nt f none m) (opsA X.E (X.calls S n) nt none ops ops.toList fr.drop ds h) k = _
  rw [g2]; exact h2
theorem W.regionD {id : Nat} {ops : Array Oper} {l₁ : TL} {ds₁ : List AD} {h₁ : AHeap} {ss : List Seen} {hs : List (Nat × AHeap)} (hok : regionOk X.E ops = true) (hr : RegD X nt ops ops.toList 0 [] [] l ds h l₁ ds₁ h₁ ss hs)
    (hp : SeenPs X.E (masks .lf 0 ops.toList) h₁ hs ss) (w : W X f nt k l₁ ds₁ h₁ Q) : W X f nt (.code (.region id ops true) :: k) l ds h Q := by
  obtain ⟨M, hM⟩ := hr
  obtain ⟨l', ds', h', j, N, q, hj, hN⟩ := w
  refine ⟨l', ds', h', j, N + M + 1, q, hj, fun S n k' hS hn hk fr hfr => ?_⟩
  obtain ⟨m, rfl⟩ : ∃ m, k' = m + 1 := ⟨k' - 1, by omega⟩
  obtain ⟨fr₁, ss₁, g1, g3, g2⟩ := hM S n (by omega) (by omega) fr.drop [] hfr.drop .nil
  obtain ⟨fr', h1, h2⟩ := hN S n m (by omega) (by omega) (by omega) fr₁ g1
  refine ⟨fr', h1, ?_⟩
  show regC (runA X.E (X.calls S n) nt f none m) (@Bool.casesOn (fun _ => Option St) (regionOk X.E ops) none (drawn X.E (masks .lf 0 ops.toList) (opsD X.E (X.calls S n) nt none ops ops.toList 0 [] [] fr.drop ds h))) k = _
  rw [hok]
  show regC (runA X.E (X.calls S n) nt f none m) (drawn X.E (masks .lf 0 ops.toList) (opsD X.E (X.calls S n) nt none ops ops.toList 0 [] [] fr.drop ds h)) k = _
  rw [g2]
  simp only [drawn, SeenPs.ok g3 hp]
  exact h2
end w

/-! ### a function -/
theorem Will.fn {X : Mach} {f : FuncId} {as : List AV} {h : AHeap} {Q : AV → AHeap → Prop} {fn : Func} {c : Code} (hI : X.I f = none) (hf : X.E.fn.get f = some fn) (hb : fn.body = some c) (hl : Nat.ble as.length fn.ntmps = true) (hn : Nat.ble fn.ntmps big = true)
    (w : W X f fn.ntmps [.code c] (TL.ofArgs 0 as) [] h fun l ds h₁ => ∃ h' vs, ds.length ≤ 100 ∧ Undo X ds h₁ h' ∧ resultsA X.E h' l.fr fn.results.toList = some vs ∧ Q (oneOr vs) h') : Will X f as h Q := by
  obtain ⟨l', ds', h₁, j, N, ⟨h', vs, hds, ⟨M, hM⟩, hr, q⟩, hj, hN⟩ := w
  refine ⟨oneOr vs, h', ⟨N + M + 1, fun S n hS hn' => ?_⟩, q⟩
  obtain ⟨m, rfl⟩ : ∃ m, n = m + 1 := ⟨n - 1, by omega⟩
  have hal : as.length ≤ big := by simp at hl hn; omega
  obtain ⟨fr', h1, h2⟩ := hN S m S (by omega) (by omega) (by omega) _ (FrOk.args as hal)
  show callS X.E (fun _ => big) X.I S (callsA X.E (fun _ => big) X.I S m) (.fn f as) h = _
  simp only [callS, hI, bodyA, hf, hb, hl]
  have h2' : runA X.E (callsA X.E (fun _ => big) X.I S m) fn.ntmps f none S [.code c] (.mk big .nil (PT.ofList .lf 0 as)) [] h = some ⟨j, ⟨fr', ds', h₁⟩⟩ := h2
  rw [h2']
  have hd : deferA (callsA X.E (fun _ => big) X.I S m) 1000 ds' h₁ = some h' := by
    have := hM S m (by omega) (by omega) (1000 - ds'.length) (by omega) (by omega)
    rwa [Nat.sub_add_cancel (by omega)] at this
  have he : endBody X.E fn fr' (some h') = some (oneOr vs, h') := by
    simp only [endBody, resultsA_le h1.le hr]
  rcases hj with rfl | rfl
  · simp only [leftBody, hd, he]
  · simp only [leftBody, hd, he]
theorem Does.known {X : Mach} {f : FuncId} {as : List AV} {h h' : AHeap} {v : AV} {g : List AV → AHeap → Option (AV × AHeap)} (hI : X.I f = some g) (hg : g as h = some (v, h')) : Does X (.fn f as) h v h' :=
  ⟨1, fun S n _ hn => by
    obtain ⟨m, rfl⟩ : ∃ m, n = m + 1 := ⟨n - 1, by omega⟩
    show callS X.E (fun _ => big) X.I S (callsA X.E (fun _ => big) X.I S m) (.fn f as) h = _
    simp only [callS, hI, hg]⟩
end Go.Abs
