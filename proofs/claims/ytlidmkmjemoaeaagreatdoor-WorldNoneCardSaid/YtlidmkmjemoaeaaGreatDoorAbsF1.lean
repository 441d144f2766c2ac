/- The abstract machine: one step of a region, both machines; a region in the order of its text; no conditions. -/
import Derived.Test.YtlidmkmjemoaeaaGreatDoorAbsE14
import Derived.AtR
import Derived.Defers
set_option linter.unusedVariables false
set_option linter.unusedSimpArgs false
set_option linter.unusedSectionVars false
namespace Go.Abs
variable [Opq]
open Go

/-- What is known of a call's end. -/
def Ret (N : FuncId → Nat) (φ : Phi) (h : AHeap) (w : World) (v : AV) (h' : AHeap) (e : Ending) (w' : World) : Prop :=
  ∃ x φ', e = .returned x ∧ VR φ' v x ∧ Sim N φ h w φ' h' w'

/-- What calls do is what 'C' says. -/
structure COk (P : Program) (N : FuncId → Nat) (C : CallT) : Prop where
  fn : ∀ {φ : Phi} {h : AHeap} {w : World}, R N φ h w → ∀ {f : FuncId} {as : List AV} {v : AV} {h' : AHeap} {L : Array Value}, C (.fn f as) h = some (v, h') → VRs φ as L.toList →
    (callFunc f L).run P w = .ok (.enter f L) w ∧ Calls P f L w (Ret N φ h w v h') ∧ CallsD P f L .returning w fun e u w' => u = .returning ∧ Ret N φ h w v h' e w'
  yield : ∀ {φ : Phi} {h : AHeap} {w : World}, R N φ h w → ∀ {l : Nat} {p : Loc} {as : List AV} {v : AV} {h' : AHeap} {L : Array Value}, C (.yield l as) h = some (v, h') → φ l = some p → VRs φ as L.toList →
    ∃ f tm ac bd, (Instr.yield p.blk L).run P w = .ok (.round p.blk f tm ac bd) w ∧ ∀ c cs, ∃ x φ' w', VR φ' v x ∧ Sim N φ h w φ' h' w' ∧
      Steps P (lone (Frame.round p.blk f tm ac bd .normal) (c :: cs) w) (lone (c.finish x) cs w')

/-- The end of an operation: what it yields, the memory, what it defers. -/
def outR (C : CallT) (rnd : Option Nat) (h : AHeap) : OpR → Option (AV × AHeap × List AD)
  | .val v => some (v, h, [])
  | .mem v h' => some (v, h', [])
  | .call f l => match C (.fn f l) h with
    | some (v, h') => some (v, h', [])
    | none => none
  | .yield l a => match C (.yield l a) h with
    | some (v, h') => some (v, h', [])
    | none => none
  | .dfr d => match rnd with
    | none => some (.tuple [], h, [.fn d])
    | some _ => none

noncomputable def setD (nt : Nat) (fr : Fr) (dst : Option Nat) (v : AV) : Option Fr := match dst with
  | none => some fr
  | some d => if d + 1 ≤ nt then some (fr.set d v) else none

section inv
variable {β : Type} {E : Env} {C : CallT} {nt : Nat} {rnd : Option Nat} {ih : Fr → List AD → AHeap → Option β} {dst : Option Nat} {v : AV} {fr : Fr} {ds : List AD} {h : AHeap} {s : β}

theorem keep_inv (hk : keep nt ih dst v fr ds h = some s) : ∃ fr', setD nt fr dst v = some fr' ∧ ih fr' ds h = some s := by
  cases dst with
  | none => exact ⟨fr, rfl, hk⟩
  | some d =>
    by_cases hd : d + 1 ≤ nt
    · refine ⟨fr.set d v, by simp [setD, hd], ?_⟩
      have hb : Nat.ble (Nat.add d 1) nt = true := by simpa using hd
      have : keep nt ih (some d) v fr ds h = @Bool.casesOn (fun _ => Option β) (Nat.ble (Nat.add d 1) nt) none (ih (fr.set d v) ds h) := rfl
      rw [this, hb] at hk
      exact hk
    · have hb : Nat.ble (Nat.add d 1) nt = false := by
        rw [← Bool.not_eq_true]; intro h; exact hd (by simpa using h)
      have : keep nt ih (some d) v fr ds h = @Bool.casesOn (fun _ => Option β) (Nat.ble (Nat.add d 1) nt) none (ih (fr.set d v) ds h) := rfl
      rw [this, hb] at hk
      cases hk

theorem after_inv {x : Option (AV × AHeap)} (hk : after nt ih dst fr ds x = some s) : ∃ v h', x = some (v, h') ∧ keep nt ih dst v fr ds h' = some s := by
  cases x with
  | none => cases hk
  | some p => exact ⟨p.1, p.2, rfl, hk⟩

theorem doOp_inv {o : Oper} (hk : doOp E C nt rnd ih o fr ds h = some s) :
    ∃ r v h' dd, opA E h fr o.op = some r ∧ outR C rnd h r = some (v, h', dd) ∧ keep nt ih o.dst v fr (dd ++ ds) h' = some s := by
  unfold doOp at hk
  cases hr : opA E h fr o.op with
  | none => rw [hr] at hk; cases hk
  | some r =>
    rw [hr] at hk
    simp only [doneR] at hk
    cases r with
    | val v => exact ⟨_, v, h, [], rfl, rfl, hk⟩
    | mem v h' => exact ⟨_, v, h', [], rfl, rfl, hk⟩
    | call f l =>
      obtain ⟨v, h', hc, hk⟩ := after_inv hk
      exact ⟨_, v, h', [], rfl, by simp only [outR, hc], hk⟩
    | yield l a =>
      obtain ⟨v, h', hc, hk⟩ := after_inv hk
      exact ⟨_, v, h', [], rfl, by simp only [outR, hc], hk⟩
    | dfr d =>
      cases rnd with
      | none => exact ⟨_, .tuple [], h, [.fn d], rfl, rfl, hk⟩
      | some l => cases hk

theorem opsS_inv {ops : Array Oper} {o : Oper} (hk : opsS E C nt rnd ih ops o fr ds h = some s) :
    (want ops fr o = some false ∧ keep nt ih o.dst (.tuple []) fr ds h = some s) ∨ (want ops fr o = some true ∧ doOp E C nt rnd ih o fr ds h = some s) := by
  unfold opsS at hk
  cases hr : want ops fr o with
  | none => rw [hr] at hk; cases hk
  | some b =>
    rw [hr] at hk
    cases b with
    | false => exact .inl ⟨rfl, hk⟩
    | true => exact .inr ⟨rfl, hk⟩
end inv

section
variable {P : Program} {E : Env} {N : FuncId → Nat} {φ : Phi} {h : AHeap} {w : World} {nt : Nat} {fr : Fr} {a : Act} {rnd : Option Nat} {C : CallT}

theorem want_ok (hf : FrR φ nt fr a.tmps) {ops : Array Oper} {o : Oper} {b : Bool} (hw : want ops fr o = some b) : Region.wanted o (yielded ops a.tmps) = b := by
  unfold want at hw
  unfold Region.wanted
  cases hg : o.guard with
  | none => rw [hg] at hw; cases hw; rfl
  | some g =>
    obtain ⟨j, wt⟩ := g
    rw [hg] at hw
    simp only [wantD] at hw
    simp only
    unfold yielded
    split at hw
    · rename_i d hd
      have hd' : ((ops[j]?).bind (·.dst)) = some d := hd
      rw [hd']
      unfold wantV at hw
      split at hw
      · rename_i v hv
        have hr := hf.2 d v hv
        simp only [Option.bind_some]
        split at hw
        · rename_i c
          cases hw
          cases hx : a.tmps[d]? with
          | none =>
            have : a.tmps.getD d undef = undef := by simp [Array.getD_eq_getD_getElem?, hx]
            rw [this] at hr; cases hr
          | some x =>
            have : a.tmps.getD d undef = x := by simp [Array.getD_eq_getD_getElem?, hx]
            rw [this] at hr
            cases hr
            simp
        · cases hw
          cases hx : a.tmps[d]? with
          | none => rfl
          | some x =>
            have : a.tmps.getD d undef = x := by simp [Array.getD_eq_getD_getElem?, hx]
            rw [this] at hr
            cases hr
            rfl
        · cases hw
      · cases hw
    · cases hw

theorem FrR.put (hf : FrR φ nt fr a.tmps) {dst : Option Nat} {v : AV} {x : Value} {fr' : Fr} (hv : VR φ v x) (hs : setD nt fr dst v = some fr') : FrR φ nt fr' (a.put dst x).tmps := by
  unfold setD at hs
  split at hs
  · cases hs; exact hf
  · rename_i d
    split at hs
    · rename_i hd
      cases hs
      refine ⟨by simp [Act.put, hf.1], fun t u hu => ?_⟩
      rw [Fr.get_set] at hu
      simp only [Act.put]
      by_cases e : t = d
      · subst e
        simp only [if_true] at hu
        cases hu
        have : t < a.tmps.size := by rw [hf.1]; omega
        simpa [Array.getD_eq_getD_getElem?, Array.getElem?_setIfInBounds, this] using hv
      · rw [if_neg e] at hu
        have := hf.2 t u hu
        have e' : ¬ d = t := fun h => e h.symm
        simpa [Array.getD_eq_getD_getElem?, Array.getElem?_setIfInBounds, e'] using this
    · cases hs

theorem AdR.cons1 {dd ds : List AD} {D : List Deferred} {l : List Deferred} (h1 : AdR φ dd D) (h2 : AdR φ ds l) : AdR φ (dd ++ ds) (D ++ l) := by
  induction h1 with
  | nil => exact h2
  | fn d e l m h hl ih => exact .fn _ _ _ _ h ih
  | mark r p l m h hl ih => exact .mark _ _ _ _ h ih

/-- One operation, both machines. -/
theorem op_step (EO : EnvOk P E) (hC : COk P N C) (r : R N φ h w) (hf : FrR φ nt fr a.tmps) {ops : Array Oper} {i : Nat} {o : Oper} (ho : ops[i]? = some o) (hw : Region.wanted o (yielded ops a.tmps) = true)
    {y : OpR} {v : AV} {h' : AHeap} {dd : List AD} (hx : opA E h fr o.op = some y) (hy : outR C rnd h y = some (v, h', dd)) {b : Frame} (hb : b.roundOf.isSome = rnd.isSome) (rest : List Nat) (k : List Item) (cs : List Frame) :
    ∃ x φ' w' D, VR φ' v x ∧ Sim N φ h w φ' h' w' ∧ AdR φ dd D ∧
      Steps P (lone (b.atR a (.inRegion ops (i :: rest) :: k)) cs w) (lone (b.atR ({ a with defers := D ++ a.defers }.put o.dst x) (.inRegion ops rest :: k)) cs w') := by
  have hok := opA_ok (N := N) (w := w) EO r hf hx
  have hg := stepGR_op (P := P) (b := b) (k := k) (cs := cs) (w := w) (rest := rest) ho hw
  have hfin : ∀ v, (b.atR a (.inRegion ops (i :: rest) :: k)).finish v = b.atR (a.put o.dst v) (.inRegion ops rest :: k) := by
    intro v; rw [Frame.finish_atR, ho]; rfl
  have hnd : (∀ d, y ≠ .dfr d) → o.semAt b.roundOf a.eval = execOp a.eval o := by
    intro hn
    refine Oper.semAt_eq _ _ _ fun c hc => ?_
    obtain ⟨dst, op, ty⟩ := o
    simp only at hc; subst hc
    have : deferOpA fr c = some y := hx
    unfold deferOpA at this
    split at this
    · obtain ⟨_, _, this⟩ := o1Inv this
      obtain ⟨_, _, this⟩ := oL_inv this
      unfold dfrOf at this
      split at this
      · cases this; exact hn _ rfl
      · cases this
    · cases this
  cases y with
  | val u =>
    cases hy
    obtain ⟨x, hr, hv⟩ := hok
    rw [hnd (fun _ e => by cases e)] at hg
    refine ⟨x, φ, w, [], hv, Sim.refl r, .nil, .one (step_lone_go ?_)⟩
    rw [hg, List.nil_append, ← hfin]; simp [stepG.apply, hr]
  | mem u h'' =>
    cases hy
    obtain ⟨x, nx, φ', w', hr, hnx, hv, hs⟩ := hok
    rw [hnd (fun _ e => by cases e)] at hg
    refine ⟨x, φ', w', [], hv, hs, .nil, .one (step_lone_go ?_)⟩
    rw [hg, List.nil_append, ← hfin]
    rcases hnx with rfl | ⟨rfl, rfl⟩ <;> simp [stepG.apply, hr]
  | call f l =>
    simp only [outR] at hy
    split at hy
    · rename_i u h'' hc
      cases hy
      obtain ⟨L, hr, hl⟩ := hok
      rw [hnd (fun _ e => by cases e)] at hg
      obtain ⟨he, hcall, _⟩ := hC.fn r hc hl
      rw [he] at hr
      obtain ⟨e, w'', fr', ⟨x, φ', he, hv, hs⟩, hsteps, _, hleave⟩ := hcall (b.atR a (.inRegion ops (i :: rest) :: k) :: cs)
      subst he
      have henter : step P (lone (b.atR a (.inRegion ops (i :: rest) :: k)) cs w) =
          .next (lone (Frame.enter P f L .normal) (b.atR a (.inRegion ops (i :: rest) :: k) :: cs) w) :=
        step_lone_go (by rw [hg]; simp [stepG.apply, hr, Frame.atR])
      refine ⟨x, φ', w'', [], hv, hs, .nil, .head henter (Steps.trans hsteps (.one ?_))⟩
      rw [List.nil_append, ← hfin]; exact step_leave_returned hleave
    · cases hy
  | yield l as =>
    simp only [outR] at hy
    split at hy
    · rename_i u h'' hc
      cases hy
      obtain ⟨p, L, hp, hr, hl⟩ := hok
      rw [hnd (fun _ e => by cases e)] at hg
      obtain ⟨f, tm, ac, bd, he, hcall⟩ := hC.yield r hc hp hl
      rw [he] at hr
      obtain ⟨x, φ', w', hv, hs, hsteps⟩ := hcall (b.atR a (.inRegion ops (i :: rest) :: k)) cs
      have henter : step P (lone (b.atR a (.inRegion ops (i :: rest) :: k)) cs w) =
          .next (lone (Frame.round p.blk f tm ac bd .normal) (b.atR a (.inRegion ops (i :: rest) :: k) :: cs) w) :=
        step_lone_go (by rw [hg]; simp [stepG.apply, hr, Frame.atR])
      refine ⟨x, φ', w', [], hv, hs, .nil, .head henter ?_⟩
      rw [List.nil_append, ← hfin]; exact hsteps
    · cases hy
  | dfr d =>
    cases rnd with
    | some l => cases hy
    | none =>
      cases hy
      obtain ⟨D, hr, hd⟩ := hok
      have hb : b.roundOf = none := by simpa using hb
      rw [hb, Oper.semAt_none] at hg
      refine ⟨undef, φ, w, [D], .tuple _ _ .nil, Sim.refl r, .fn _ _ _ _ hd .nil, .one (step_lone_go ?_)⟩
      have : ({ b.atR a (.inRegion ops (i :: rest) :: k) with defers := D :: a.defers } : Frame).finish undef =
          b.atR ({ a with defers := [D] ++ a.defers }.put o.dst undef) (.inRegion ops rest :: k) := by
        have := Frame.finish_atR b { a with defers := D :: a.defers } ops i rest k undef
        rw [ho] at this; exact this
      rw [hg]; simp only [stepG.apply, Sem.runT_eq, hr, GStep.bare_after]
      exact congrArg (fun fr => GStep.go { frame := fr, callers := cs, status := .running, dying := none } w) this

/-- A region, in the order of its text. -/
theorem opsA_ok (EO : EnvOk P E) (hC : COk P N C) {ops : Array Oper} {b : Frame} (hb : b.roundOf.isSome = rnd.isSome) (k : List Item) (cs : List Frame) :
    ∀ (l : List Oper) (i : Nat), ops.toList.drop i = l → ∀ {φ : Phi} {h : AHeap} {w : World} {fr : Fr} {ds : List AD} {a : Act} {s : St}, R N φ h w → FrR φ nt fr a.tmps → AdR φ ds a.defers →
      opsA E C nt rnd ops l fr ds h = some s → ∃ φ' w' a', Sim N φ h w φ' s.h w' ∧ FrR φ' nt s.fr a'.tmps ∧ AdR φ' s.ds a'.defers ∧
        Steps P (lone (b.atR a (.inRegion ops (List.range' i l.length) :: k)) cs w) (lone (b.atR a' (.inRegion ops [] :: k)) cs w')
  | [], i, hl, φ, h, w, fr, ds, a, s, r, hf, hd, hx => by
    cases hx
    exact ⟨φ, w, a, Sim.refl r, hf, hd, Steps.refl _ _⟩
  | o :: l, i, hl, φ, h, w, fr, ds, a, s, r, hf, hd, hx => by
    have ho : ops[i]? = some o := by
      have := congrArg (·[0]?) hl
      simpa using this
    have hl' : ops.toList.drop (i + 1) = l := by
      rw [← List.drop_drop, hl]; rfl
    rcases opsS_inv hx with ⟨hw, hk⟩ | ⟨hw, hk⟩
    · obtain ⟨fr', hs, hk⟩ := keep_inv hk
      have hw := want_ok hf hw
      obtain ⟨φ', w', a', h1, h2, h3, h4⟩ := opsA_ok EO hC hb k cs l (i + 1) hl' (a := a.put o.dst undef) r (hf.put (.tuple _ _ .nil) hs) (by cases o.dst <;> exact hd) hk
      refine ⟨φ', w', a', h1, h2, h3, .head ?_ h4⟩
      have := stepR_op_skip (P := P) (b := b) (a := a) (k := k) (cs := cs) (w := w) (ops := ops) (i := i) (rest := List.range' (i + 1) l.length) (by simp [ho, hw])
      rw [ho] at this
      exact this
    · obtain ⟨y, v, h', dd, hy, hout, hk⟩ := doOp_inv hk
      obtain ⟨fr', hs, hk⟩ := keep_inv hk
      have hw := want_ok hf hw
      obtain ⟨x, φ₁, w₁, D, g1, g2, g3, g4⟩ := op_step EO hC r hf ho hw hy hout hb (List.range' (i + 1) l.length) k cs
      obtain ⟨φ', w', a', h1, h2, h3, h4⟩ := opsA_ok EO hC hb k cs l (i + 1) hl' (a := { a with defers := D ++ a.defers }.put o.dst x) g2.rel
        (FrR.put (a := { a with defers := D ++ a.defers }) (hf.mono g2.le) g1 hs) (by cases o.dst <;> exact (g3.cons1 hd).mono g2.le) hk
      exact ⟨φ', w', a', g2.trans h1, h2, h3, Steps.trans g4 h4⟩
end
end Go.Abs
