/- The abstract machine: calls, both machines; no conditions. -/
import Derived.Test.YtlidmkmjemoaeaaGreatDoorAbsG1
set_option linter.unusedVariables false
set_option linter.unusedSimpArgs false
set_option linter.unusedSectionVars false
namespace Go.Abs
variable [Opq]
open Go

section
variable {P : Program} {E : Env} {N : FuncId → Nat} {C : CallT} {nt : Nat}

/-! ### deferred calls -/
theorem deferA_ok (hC : COk P N C) : ∀ (n : Nat) (ds : List AD) {h h' : AHeap} {φ : Phi} {w : World} (fr : Frame) (cs : List Frame), R N φ h w → AdR φ ds fr.defers → fr.mode = .returning → deferA C n ds h = some h' →
    ∃ φ' w', Sim N φ h w φ' h' w' ∧ Steps P (lone fr cs w) (lone { fr with defers := [] } cs w')
  | n, [], h, h', φ, w, fr, cs, r, hd, hm, hx => by
    have : deferA C n [] h = some h := by cases n <;> rfl
    rw [this] at hx; cases hx
    have h0 := hd.nil_inv
    refine ⟨φ, w, Sim.refl r, ?_⟩
    have : { fr with defers := [] } = fr := by rw [← h0]
    rw [this]
    exact Steps.refl _ _
  | 0, _ :: _, h, h', φ, w, fr, cs, r, hd, hm, hx => by cases hx
  | n + 1, .mark rr :: l, h, h', φ, w, fr, cs, r, hd, hm, hx => by
    generalize hds : fr.defers = ds at hd
    cases hd with
    | mark _ p _ m hp hl =>
      simp only [deferA] at hx
      split at hx
      · rename_i hg
        obtain ⟨h0, ds', hobj, l', e, hl'⟩ := r.obj rr p _ hp hg
        cases hl'
        subst e
        have hrun := run_takeDeferred (P := P) hobj
        have s := Sim.putLoop (N := N) (o₁ := .deferred none) (q := .deferred none) r hp hg fun w' hw' => ⟨h0, none, hw', rfl⟩
        have hstep := step_collected (cs := cs) (by rw [hm]; exact fun h => by cases h) hds rfl hrun
        obtain ⟨φ', w', s', hs'⟩ := deferA_ok hC n l { fr with defers := [] ++ m } cs s.rel (hl.mono s.le) hm hx
        exact ⟨φ', w', s.trans s', .head hstep hs'⟩
      · cases hx
  | n + 1, .fn d :: l, h, h', φ, w, fr, cs, r, hd, hm, hx => by
    generalize hds : fr.defers = ds at hd
    cases hd with
    | fn _ e _ m hde hl =>
      simp only [deferA] at hx
      split at hx
      · rename_i f hf
        split at hx
        · rename_i v h₁ hc
          cases hde with
          | mk f0 g c a c' a' hfn hcp ha =>
            simp only at hf; subst hf
            cases hfn with
            | same _ _ =>
              have hls : VRs φ (a ++ c) (a' ++ c').toList := by
                rw [Array.toList_append]; exact ha.append hcp
              obtain ⟨hent, _, hcall⟩ := hC.fn r hc hls
              have hinv : (Go.invoke (.fn (.func f) c') a').run P w = .ok (.enter f (a' ++ c')) w := by
                simp only [Go.invoke]; exact hent
              have hstep := step_defer (P := P) (fr := fr) (cs := cs) (w := w) (by rw [hm]; exact fun h => by cases h) hds rfl hinv
              obtain ⟨e, u, w₁, fr', ⟨rfl, x, φ₁, rfl, hxv, s₁⟩, hcome, hk, hgo⟩ := hcall { fr with defers := m } cs hm
              have hback := step_going_returned (c := { ({ fr with defers := m } : Frame) with mode := .returning }) (cs := cs) hk hgo
              obtain ⟨φ', w', s', hs'⟩ := deferA_ok hC n l { fr with defers := m } cs s₁.rel (hl.mono s₁.le) hm hx
              have he : ({ ({ ({ fr with defers := m } : Frame) with mode := .returning } : Frame) with mode := settle .returning } : Frame) = { fr with defers := m } := by
                cases fr; simp only at hm; subst hm; rfl
              simp only at hback
              rw [he] at hback
              exact ⟨φ', w', s₁.trans s', .head hstep (Steps.trans hcome (.head hback hs'))⟩
        · cases hx
      · cases hx

/-! ### results -/
/-- one result -/
def resOf (tmps : Array Value) : ResultVar → Sem Value
  | .tmp t => pure (tmps.getD t undef)
  | .cell a t => do loadVar t (← asAddr (tmps.getD a undef))

theorem resultsA_ok (EO : EnvOk P E) {φ : Phi} {h : AHeap} {w : World} {fr : Fr} {tmps : Array Value} (r : R N φ h w) (hf : FrR φ nt fr tmps) : ∀ (l : List ResultVar) (vs : List AV), resultsA E h fr l = some vs →
    ∃ ms, (l.mapM (resOf tmps)).run P w = .ok ms w ∧ VRs φ vs ms
  | [], vs, hx => by
    simp only [resultsA] at hx
    cases hx
    exact ⟨[], by simp, .nil⟩
  | .tmp t :: l, vs, hx => by
    simp only [resultsA] at hx
    split at hx
    · rename_i v hv
      split at hx
      · rename_i vs' hvs
        cases hx
        obtain ⟨ms, h1, h2⟩ := resultsA_ok EO r hf l vs' hvs
        refine ⟨tmps.getD t undef :: ms, ?_, .cons _ _ _ _ (hf.2 t v hv) h2⟩
        simp only [List.mapM_cons, resOf, Sem.run_bind, Sem.run_pure, Result.andThen_ok, h1]
      · cases hx
    · cases hx
  | .cell a t :: l, vs, hx => by
    simp only [resultsA] at hx
    split at hx
    · rename_i p hp
      split at hx
      · rename_i v hv
        split at hx
        · rename_i vs' hvs
          cases hx
          obtain ⟨ms, h1, h2⟩ := resultsA_ok EO r hf l vs' hvs
          have hpv := hf.2 a p hp
          unfold loadA at hv
          split at hv
          · split at hv
            · rename_i b o i hi
              generalize hz : tmps.getD a undef = z at hpv
              cases hpv with
              | ptr _ _ q hq =>
                obtain ⟨x, hx, hxr⟩ := run_loadVar_at EO hi r hq hv
                refine ⟨x :: ms, ?_, .cons _ _ _ _ hxr h2⟩
                simp only [List.mapM_cons, resOf, hz, asAddr, Sem.run_bind, Sem.run_pure, Result.andThen_ok, hx, h1]
            · cases hv
          · cases hv
        · cases hx
      · cases hx
    · cases hx

theorem results_ok (EO : EnvOk P E) {φ : Phi} {h : AHeap} {w : World} {fr : Fr} {tmps : Array Value} (r : R N φ h w) (hf : FrR φ nt fr tmps) {fn : Func} {vs : List AV} (hx : resultsA E h fr fn.results.toList = some vs) :
    ∃ x, (results fn tmps).run P w = .ok x w ∧ VR φ (oneOr vs) x := by
  obtain ⟨ms, h1, h2⟩ := resultsA_ok EO r hf _ vs hx
  have hm : (fn.results.mapM (resOf tmps)).run P w = .ok ms.toArray w := by
    rw [Array.mapM_eq_mapM_toList]
    have : (List.toArray <$> fn.results.toList.mapM (resOf tmps) : Sem (Array Value)) = (do let l ← fn.results.toList.mapM (resOf tmps); pure l.toArray) := by
      rw [map_eq_pure_bind]
    rw [this]
    simp only [Sem.run_bind, h1, Result.andThen_ok, Sem.run_pure]
  have he : results fn tmps = (do let vs ← fn.results.mapM (resOf tmps); pure (if h : vs.size = 1 then vs[0] else .tuple vs)) := by
    unfold results
    congr 1
  rw [he]
  simp only [Sem.run_bind, hm, Result.andThen_ok, Sem.run_pure]
  have hl := h2.length
  by_cases h1 : ms.length = 1
  · obtain ⟨m, rfl⟩ := List.length_eq_one_iff.1 h1
    cases h2 with
    | cons v _ _ _ hv hnil =>
      cases hnil
      exact ⟨m, by simp, hv⟩
  · refine ⟨.tuple ms.toArray, by simp [h1], ?_⟩
    have : oneOr vs = .tuple vs := by
      unfold oneOr
      split
      · rename_i v; simp at hl; omega
      · rfl
    rw [this]
    exact .tuple _ _ (by simpa using h2)

/-! ### a call -/
/-- A function's body, walked to where it hands over. -/
theorem body_steps {S : Nat} (EO : EnvOk P E) (hC : COk P N C) (hmix : P.follows .mixedOrders = true) (hN : ∀ f fn, P.funcs[f]? = some fn → N f = fn.ntmps) {B : FuncId → Nat} {f : FuncId} {as : List AV} {v : AV} {h h' : AHeap} {φ : Phi} {w : World} {L : Array Value}
    (r : R N φ h w) (hl : VRs φ as L.toList) (hx : bodyA E B S C f as h = some (v, h')) (kd : CallKind) (cs : List Frame) :
    ∃ fn c w' fr x φ', P.funcs[f]? = some fn ∧ fn.body = some c ∧ Steps P (lone (Frame.enter P f L kd) cs w) (lone fr cs w') ∧ fr.kind = kd ∧ fr.mode = .returning ∧ fr.defers = [] ∧ fr.fn = f ∧ (results fn fr.tmps).run P w' = .ok x w' ∧ VR φ' v x ∧ Sim N φ h w φ' h' w' := by
  unfold bodyA at hx
  split at hx
  · rename_i fn hfn
    have hf := EO.fn f fn hfn
    split at hx
    · rename_i c hb
      split at hx
      · rename_i hle
        have hle : as.length ≤ fn.ntmps := by simpa using hle
        have hll := hl.length
        simp at hll
        let b : Frame := { (default : Frame) with fn := f, kind := kd, roundOf := none }
        let a : Act := { tmps := L ++ Array.replicate (fn.ntmps - L.size) undef, defers := [] }
        have henter : Frame.enter P f L kd = b.atR a [.code c] := by
          simp [Frame.enter, Frame.atR, hf, hb, b, a]
        have hfr : FrR φ fn.ntmps (.mk (B f) .nil (PT.ofList .lf 0 as)) a.tmps := by
          refine ⟨by simp [a]; omega, fun t u hu => ?_⟩
          rw [Fr.get_mk] at hu
          split at hu
          · rw [TL.get_nil] at hu; cases hu
          · rw [PT.get_ofList] at hu
            split at hu
            · rename_i hi
              simp only [Nat.sub_zero] at hu
              obtain ⟨x, hx, hxr⟩ := hl.get t u hu
              have ht : t < L.size := by omega
              have : a.tmps.getD t undef = x := by
                simp only [a, Array.getD_eq_getD_getElem?, Array.getElem?_append, ht, if_true]
                have : L[t]? = some x := by simpa using hx
                rw [this]; rfl
              rw [this]; exact hxr
            · rw [PT.get_lf] at hu; cases hu
        rw [henter]
        unfold leftBody at hx
        split at hx
        · rename_i jump s hrun
          have hrn := runA_ok EO hC hmix (b := b) (rnd := none) (hN f fn hf) rfl cs S r hfr (AdR.nil) rfl hrun
          obtain ⟨φ₁, w₁, a₁, s₁, f₁, d₁, hend⟩ := hrn
          simp only at s₁ f₁ d₁ hend
          have fin : ∀ todo, Steps P (lone (b.atR a [.code c]) cs w) (lone { b.atR a₁ todo with mode := .returning } cs w₁) → endBody E fn s.fr (deferA C 1000 s.ds s.h) = some (v, h') →
              ∃ fn' c0 w' fr x φ', P.funcs[f]? = some fn' ∧ fn'.body = some c0 ∧ Steps P (lone (b.atR a [.code c]) cs w) (lone fr cs w') ∧ fr.kind = kd ∧ fr.mode = .returning ∧ fr.defers = [] ∧ fr.fn = f ∧ (results fn' fr.tmps).run P w' = .ok x w' ∧ VR φ' v x ∧ Sim N φ h w φ' h' w' := by
            intro todo hst he
            unfold endBody at he
            split at he
            · rename_i h₂ hdf
              split at he
              · rename_i vs hvs
                cases he
                obtain ⟨φ₂, w₂, s₂, hst₂⟩ := deferA_ok hC 1000 s.ds { b.atR a₁ todo with mode := .returning } cs s₁.rel d₁ rfl hdf
                obtain ⟨x, hx1, hx2⟩ := results_ok EO s₂.rel (f₁.mono s₂.le) hvs
                exact ⟨fn, c, w₂, _, x, φ₂, hf, hb, Steps.trans hst hst₂, rfl, rfl, rfl, rfl, hx1, hx2, s₁.trans s₂⟩
              · cases he
            · cases he
          split at hx
          · rcases hend with ⟨_, hst⟩ | ⟨_, _, h1, _⟩
            · exact fin [] (Steps.trans hst (.one (stepR_end rfl))) hx
            · cases h1
          · rename_i cj
            split at hx
            · rcases hend with ⟨h1, _⟩ | ⟨c', k, h1, _, hst⟩
              · cases h1
              · cases h1
                exact fin _ (Steps.trans hst (.one (stepR_ret rfl))) hx
            · cases hx
        · cases hx
      · cases hx
    · cases hx
  · cases hx

/-! ### a round -/
theorem setAll_ok {φ : Phi} : ∀ (ts : List Tmp) (vs : List AV) (fr fr' : Fr) (tm : Array Value) (ms : List Value), FrR φ nt fr tm → VRs φ vs ms → setAll nt fr ts vs = some fr' →
    ts.length = ms.length ∧ FrR φ nt fr' ((ts.zip ms).foldl (fun tmps (x : Tmp × Value) => tmps.setIfInBounds x.1 x.2) tm)
  | [], [], fr, fr', tm, ms, hf, hv, hx => by
    cases hv
    simp only [setAll] at hx
    cases hx
    exact ⟨rfl, by simpa using hf⟩
  | [], _ :: _, fr, fr', tm, ms, hf, hv, hx => by simp [setAll] at hx
  | _ :: _, [], fr, fr', tm, ms, hf, hv, hx => by simp [setAll] at hx
  | t :: ts, v :: vs, fr, fr', tm, ms, hf, hv, hx => by
    cases hv with
    | cons _ x _ ms' hx1 hvs =>
      simp only [setAll] at hx
      split at hx
      · rename_i hle
        have hle : t + 1 ≤ nt := by simpa using hle
        have hf' : FrR φ nt (fr.set t v) (tm.setIfInBounds t x) := FrR.put (a := ⟨tm, []⟩) (dst := some t) hf hx1 (by simp [setD, hle])
        obtain ⟨h1, h2⟩ := setAll_ok ts vs _ fr' _ ms' hf' hvs hx
        exact ⟨by simp [h1], by simpa using h2⟩
      · cases hx

theorem round_steps {S : Nat} (EO : EnvOk P E) (hC : COk P N C) (hmix : P.follows .mixedOrders = true) (hN : ∀ f fn, P.funcs[f]? = some fn → N f = fn.ntmps) {l : Nat} {p : Loc} {as : List AV} {v : AV} {h h' : AHeap} {φ : Phi} {w : World} {L : Array Value}
    (r : R N φ h w) (hp : φ l = some p) (hl : VRs φ as L.toList) (hx : roundA E S C l as h = some (v, h')) :
    ∃ f tm ac bd, (Instr.yield p.blk L).run P w = .ok (.round p.blk f tm ac bd) w ∧ ∀ c cs, ∃ x φ' w', VR φ' v x ∧ Sim N φ h w φ' h' w' ∧
      Steps P (lone (Frame.round p.blk f tm ac bd .normal) (c :: cs) w) (lone (c.finish x) cs w') := by
  unfold roundA at hx
  split at hx
  · rename_i st pd fn tmps params assign body dd hg
    split at hx
    · rename_i f hfn
      have hf := EO.fn fn f hfn
      obtain ⟨h0, tm, q, hobj, hfr, hq⟩ := r.obj l p _ hp hg
      rw [hN fn f hf] at hfr
      unfold roundB at hx
      split at hx
      · rename_i fr hset
        obtain ⟨hlen, hfr'⟩ := setAll_ok params.toList as tmps fr tm L.toList hfr hl hset
        have hsz : L.size = params.size := by simpa using hlen.symm
        have hy := run_yield (P := P) (args := L) hobj hsz
        simp only at hy
        refine ⟨fn, _, assign, body, hy, fun c cs => ?_⟩
        have htm : ((params.zip L).foldl (fun tmps (x : Tmp × Value) => tmps.setIfInBounds x.1 x.2) tm) = ((params.toList.zip L.toList).foldl (fun tmps (x : Tmp × Value) => tmps.setIfInBounds x.1 x.2) tm) := by
          rw [← Array.foldl_toList, Array.toList_zip]
        let b : Frame := { (default : Frame) with fn := fn, kind := .normal, roundOf := some p.blk }
        let a : Act := { tmps := (params.zip L).foldl (fun tmps (x : Tmp × Value) => tmps.setIfInBounds x.1 x.2) tm, defers := [] }
        have hround : Frame.round p.blk fn ((params.zip L).foldl (fun tmps (x : Tmp × Value) => tmps.setIfInBounds x.1 x.2) tm) assign body .normal = b.atR a [.code assign, .beginRound, .code body] := by
          simp [Frame.round, Frame.atR, b, a]
        unfold leftRound at hx
        split at hx
        · rename_i jump s hrun
          have hrn := runA_ok EO hC hmix (b := b) (rnd := some l) (hN fn f hf) rfl (c :: cs) S r (a := a) (by show FrR φ f.ntmps fr a.tmps; simp only [a]; rw [htm]; exact hfr') (AdR.nil) ⟨p, hp, rfl⟩ hrun
          obtain ⟨φ₁, w₁, a₁, s₁, f₁, d₁, hend⟩ := hrn
          simp only at s₁ f₁ d₁ hend
          split at hx
          · rename_i st1 pd1 fn1 tm1 ps1 as1 bd1 dd1 hg1
            have hp₁ := s₁.le _ _ hp
            obtain ⟨h01, tm1', q1, hobj1, hfr1, hq1⟩ := s₁.rel.obj l p _ hp₁ hg1
            show ∃ x φ' w', VR φ' v x ∧ Sim N φ h w φ' h' w' ∧ Steps P (lone (Frame.round p.blk fn ((params.zip L).foldl (fun tmps (x : Tmp × Value) => tmps.setIfInBounds x.1 x.2) tm) assign body .normal) (c :: cs) w) (lone (c.finish x) cs w')
            rw [hround]
            split at hx
            · cases hx
              have hrun1 := run_endRound (P := P) none hobj1
              have s₂ := Sim.putLoop (N := N) (q := .loop { state := .ready, pending := none, fn := fn1, tmps := tm1', params := ps1, assign := as1, body := bd1, defers := q1.blk }) s₁.rel hp₁ hg1
                (o₁ := .loop .ready none fn1 tm1 ps1 as1 bd1 dd1) fun w' hw' => ⟨h01, tm1', q1, hw', hfr1, hq1⟩
              rcases hend with ⟨_, hst⟩ | ⟨_, _, h1, _⟩
              · exact ⟨.bool true, φ₁, _, .bool _, s₁.trans s₂, Steps.trans hst (.one (stepR_round_end rfl rfl hrun1))⟩
              · cases h1
            · rename_i j
              cases hx
              have hrun1 := run_endRound (P := P) (some j) hobj1
              have s₂ := Sim.putLoop (N := N) (q := .loop { state := .done, pending := some j, fn := fn1, tmps := tm1', params := ps1, assign := as1, body := bd1, defers := q1.blk }) s₁.rel hp₁ hg1
                (o₁ := .loop .done (some j) fn1 tm1 ps1 as1 bd1 dd1) fun w' hw' => ⟨h01, tm1', q1, hw', hfr1, hq1⟩
              rcases hend with ⟨h1, _⟩ | ⟨c', k, h1, hA, hst⟩
              · cases h1
              · cases h1
                rcases hA with rfl | ⟨id, rfl, hA⟩ | ⟨lb, rfl, hA⟩
                · exact ⟨.bool false, φ₁, _, .bool _, s₁.trans s₂, Steps.trans hst (.one (stepR_round_ret rfl rfl hrun1))⟩
                · exact ⟨.bool false, φ₁, _, .bool _, s₁.trans s₂, Steps.trans hst (.one (stepR_round_exit rfl rfl hA hrun1))⟩
                · exact ⟨.bool false, φ₁, _, .bool _, s₁.trans s₂, Steps.trans hst (.one (stepR_round_goto rfl rfl hA hrun1))⟩
          · cases hx
        · cases hx
      · cases hx
    · cases hx
  · cases hx

/-! ### calls, so deep -/
/-- What is known of functions that are not walked. -/
def IOk (P : Program) (N : FuncId → Nat) (I : FuncId → Option (List AV → AHeap → Option (AV × AHeap))) : Prop :=
  ∀ f g, I f = some g → ∀ {φ : Phi} {h : AHeap} {w : World}, R N φ h w → ∀ {as : List AV} {v : AV} {h' : AHeap} {L : Array Value}, g as h = some (v, h') → VRs φ as L.toList →
    (callFunc f L).run P w = .ok (.enter f L) w ∧ Calls P f L w (Ret N φ h w v h') ∧ CallsD P f L .returning w fun e u w' => u = .returning ∧ Ret N φ h w v h' e w'

theorem callsA_ok {S : Nat} (EO : EnvOk P E) (hmix : P.follows .mixedOrders = true) (hN : ∀ f fn, P.funcs[f]? = some fn → N f = fn.ntmps) (hname : ∀ (f : FuncId) (fn : Func), P.funcs[f]? = some fn → fn.body.isSome = true → (fn.name == "runtime.NumGoroutine") = false) {B : FuncId → Nat} {I : FuncId → Option (List AV → AHeap → Option (AV × AHeap))} (hI : IOk P N I) :
    ∀ n, COk P N (callsA E B I S n)
  | 0 => by
    have h0 : ∀ c h, callsA E B I S 0 c h = none := fun _ _ => rfl
    constructor
    · intro φ h w r f as v h' L hx
      rw [h0] at hx; cases hx
    · intro φ h w r l p as v h' L hx
      rw [h0] at hx; cases hx
  | n + 1 => by
    have hC := callsA_ok EO hmix hN hname (B := B) (S := S) hI n
    refine ⟨fun {φ h w} r {f as v h' L} hx hl => ?_, fun {φ h w} r {l p as v h' L} hx hp hl => ?_⟩
    · replace hx : callS E B I S (callsA E B I S n) (.fn f as) h = some (v, h') := hx
      simp only [callS] at hx
      split at hx
      · rename_i g hg
        exact hI f g hg r hx hl
      · obtain ⟨fn, c, _, _, _, _, hf, hb, _⟩ := body_steps EO hC hmix hN r hl hx .normal []
        refine ⟨?_, fun cs => ?_, fun c cs hu => ?_⟩
        · have := hname f fn hf (by rw [hb]; rfl)
          unfold callFunc
          simp only [Sem.run_bind, run_program, Result.andThen_ok, hf, this, hb, Bool.false_eq_true, if_false, Option.isNone_some, Sem.run_pure]
        · obtain ⟨fn, c, w', fr, x, φ', hf, hb, h1, h2, h3, h4, h5, h6, h7, h8⟩ := body_steps EO hC hmix hN r hl hx .normal cs
          exact ⟨.returned x, w', fr, ⟨x, φ', rfl, h7, h8⟩, h1, h5, h3, h4, h2, fn, by rw [h5]; exact hf, h6⟩
        · obtain ⟨fn, c', w', fr, x, φ', hf, hb, h1, h2, h3, h4, h5, h6, h7, h8⟩ := body_steps EO hC hmix hN r hl hx .deferred (c :: cs)
          have hc : ({ c with mode := .returning } : Frame) = c := by cases c; simp only at hu; subst hu; rfl
          exact ⟨.returned x, .returning, w', fr, ⟨rfl, x, φ', rfl, h7, h8⟩, by rw [hc]; exact h1, h2, h3, h4, fn, by rw [h5]; exact hf, h6⟩
    · replace hx : roundA E S (callsA E B I S n) l as h = some (v, h') := hx
      exact round_steps EO hC hmix hN r hp hl hx
end
end Go.Abs
