/- The abstract machine: statements, both machines; no conditions. -/
import Derived.Test.YtlidmkmjemoaeaaGreatDoorAbsF7
import Derived.RangeFuncIn
import Derived.RangeFuncRecord
set_option linter.unusedVariables false
set_option linter.unusedSimpArgs false
set_option linter.unusedSectionVars false
namespace Go.Abs
variable [Opq]
open Go

section
variable {P : Program} {E : Env} {N : FuncId → Nat} {C : CallT} {nt : Nat} {rnd : Option Nat}

/-- The frame is a round's of this loop, or no round's. -/
def RndOk (φ : Phi) (b : Frame) : Option Nat → Prop
  | none => b.roundOf = none
  | some l => ∃ p, φ l = some p ∧ b.roundOf = some p.blk
theorem RndOk.mono {φ ψ : Phi} {b : Frame} (h : φ.le ψ) : ∀ {rnd : Option Nat}, RndOk φ b rnd → RndOk ψ b rnd
  | none, r => r
  | some l, ⟨p, h1, h2⟩ => ⟨p, h _ _ h1, h2⟩
theorem RndOk.isSome {φ : Phi} {b : Frame} : ∀ {rnd : Option Nat}, RndOk φ b rnd → b.roundOf.isSome = rnd.isSome
  | none, r => by rw [show b.roundOf = none from r]
  | some l, ⟨p, h1, h2⟩ => by rw [h2]; rfl

theorem regionA_ok (EO : EnvOk P E) (hC : COk P N C) (hmix : P.follows .mixedOrders = true) {b : Frame} (hb : b.roundOf.isSome = rnd.isSome) {φ : Phi} {h : AHeap} {w : World} {fr : Fr} {ds : List AD} {a : Act} {s : St} {ops : Array Oper} {draw : Bool}
    (r : R N φ h w) (hf : FrR φ nt fr a.tmps) (hd : AdR φ ds a.defers) (hx : regionA E C nt rnd ops draw fr ds h = some s) (id : Nat) (k : List Item) (cs : List Frame) :
    ∃ φ' w' a', Sim N φ h w φ' s.h w' ∧ FrR φ' nt s.fr a'.tmps ∧ AdR φ' s.ds a'.defers ∧ Steps P (lone (b.atR a (.code (.region id ops draw) :: k)) cs w) (lone (b.atR a' k) cs w') := by
  cases draw with
  | false =>
    have hx : opsA E C nt rnd ops ops.toList fr ds h = some s := hx
    obtain ⟨φ', w', a', h1, h2, h3, h4⟩ := opsA_ok EO hC hb k cs ops.toList 0 rfl r hf hd hx
    refine ⟨φ', w', a', h1, h2, h3, .head stepR_region (Steps.trans ?_ (.one (stepR_region_end (ops := ops))))⟩
    rw [List.range_eq_range']
    simpa using h4
  | true =>
    have hx : @Bool.casesOn (fun _ => Option St) (regionOk E ops) none (drawn E (masks .lf 0 ops.toList) (opsD E C nt rnd ops ops.toList 0 [] [] fr ds h)) = some s := hx
    cases hro : regionOk E ops with
    | false => rw [hro] at hx; cases hx
    | true =>
      rw [hro] at hx
      have hx : drawn E (masks .lf 0 ops.toList) (opsD E C nt rnd ops ops.toList 0 [] [] fr ds h) = some s := hx
      unfold drawn at hx
      split at hx
      · rename_i s' ss hs ho
        split at hx
        · rename_i hall
          cases hx
          obtain ⟨F, D, H, e1, e2, e3, e4, e5, e6, hsub, hst, hH⟩ := opsD_trace ops.toList 0 rfl (Nat.zero_le _) ho
          let w₁ : World := { w with drawn := w.drawn + 1 }
          have r₁ : R N φ h w₁ := R.of_heap (w := w) rfl r
          have s₁ : Sim N φ h w φ h w₁ :=
            ⟨fun _ _ e => e, r₁, fun _ _ e => .inl e, fun b p e => (r.dom b p e).1, fun _ _ e => e, Nat.le_refl _, fun _ _ _ => rfl, Nat.le_refl _, fun _ _ _ => rfl, rfl, rfl, rfl⟩
          have X : Ctx P E N C nt rnd ops F D H ss φ w₁ a := {
            EO := EO
            hC := hC
            RO := regionOk_spec hro
            st := fun j o hj => hst j o (Nat.zero_le _) hj
            sn := fun x hx e he hW => by
              have hok := List.all_eq_true.1 hall x hx
              rw [← e6] at hok
              rcases (seen_spec hH hok (Nat.zero_le _)).2 e (Nat.zero_le _) he hW with h | ⟨h1, e', h2, h3⟩
              · refine .inl ?_
                split
                · rename_i hle
                  have : Nat.ble (Nat.add e 1) x.i = true := by simpa using hle
                  rw [this] at h
                  exact mask_Bf h
                · rename_i hle
                  have : Nat.ble (Nat.add e 1) x.i = false := by
                    rw [← Bool.not_eq_true]; intro h; exact hle (by simpa using h)
                  rw [this] at h
                  exact mask_Bf h
              · exact .inr ⟨seenIn_spec h1, e', h2, seenIn_spec h3⟩
            r0 := by rw [e3]; exact r₁
            f0 := by rw [e1]; exact hf
            d0 := by rw [e2]; exact hd }
          have hstep := stepR_region_draw (P := P) (b := b) (a := a) (k := k) (cs := cs) (w := w) (ops := ops) (id := id)
          obtain ⟨φ', w', a', h1, h2, h3, h4⟩ := draw_ok X hb k cs (w.tape w.drawn (.order b.fn id))
          rw [e3, e6] at h1; rw [e4] at h2; rw [e5] at h3
          refine ⟨φ', w', a', s₁.trans h1, h2, h3, .head hstep (Steps.trans ?_ (.one (stepR_region_end (ops := ops))))⟩
          simp only [Region.schedule, hmix, Bool.true_or, if_true]
          exact h4
        · cases hx
      · cases hx

/-- A jump that leaves the frame's list. -/
def Away (c : Code) (k : List Item) : Prop := c = .ret ∨ (∃ id, c = .exit id ∧ exitTo id k = none) ∨ ∃ l, c = .goto l ∧ gotoIn l k = none

/-- What a walk comes to. -/
def RunOk (P : Program) (N : FuncId → Nat) (nt : Nat) (φ : Phi) (h : AHeap) (w : World) (b : Frame) (cs : List Frame) (a : Act) (todo : List Item) (L : Left) : Prop :=
  ∃ φ' w' a', Sim N φ h w φ' L.s.h w' ∧ FrR φ' nt L.s.fr a'.tmps ∧ AdR φ' L.s.ds a'.defers ∧
    ((L.jump = none ∧ Steps P (lone (b.atR a todo) cs w) (lone (b.atR a' []) cs w')) ∨
     ∃ c k, L.jump = some c ∧ Away c k ∧ Steps P (lone (b.atR a todo) cs w) (lone (b.atR a' (.code c :: k)) cs w'))

theorem RunOk.after {φ φ₁ : Phi} {h h₁ : AHeap} {w w₁ : World} {b : Frame} {cs : List Frame} {a a₁ : Act} {todo todo₁ : List Item} {L : Left} (s : Sim N φ h w φ₁ h₁ w₁) (hs : Steps P (lone (b.atR a todo) cs w) (lone (b.atR a₁ todo₁) cs w₁))
    (r : RunOk P N nt φ₁ h₁ w₁ b cs a₁ todo₁ L) : RunOk P N nt φ h w b cs a todo L := by
  obtain ⟨φ', w', a', h1, h2, h3, h4⟩ := r
  refine ⟨φ', w', a', s.trans h1, h2, h3, ?_⟩
  rcases h4 with ⟨h4, h5⟩ | ⟨c, k, h4, h5, h6⟩
  · exact .inl ⟨h4, Steps.trans hs h5⟩
  · exact .inr ⟨c, k, h4, h5, Steps.trans hs h6⟩

theorem RunOk.head {φ : Phi} {h : AHeap} {w : World} {b : Frame} {cs : List Frame} {a : Act} {todo todo₁ : List Item} {L : Left} (r0 : R N φ h w) (hs : step P (lone (b.atR a todo) cs w) = .next (lone (b.atR a todo₁) cs w))
    (r : RunOk P N nt φ h w b cs a todo₁ L) : RunOk P N nt φ h w b cs a todo L := r.after (Sim.refl r0) (.one hs)

theorem stepR_scope {b : Frame} {a : Act} {k : List Item} {cs : List Frame} {w : World} {c : Code} : step P (lone (b.atR a (.code (.scope c) :: k)) cs w) = .next (lone (b.atR a (.code c :: .inScope c :: k)) cs w) :=
  step_lone_go (by simp [stepG, stepG.exec, Frame.atR])
theorem stepR_inScope {b : Frame} {a : Act} {k : List Item} {cs : List Frame} {w : World} {c : Code} : step P (lone (b.atR a (.inScope c :: k)) cs w) = .next (lone (b.atR a k) cs w) :=
  step_lone_go (by simp [stepG, stepG.exec, Frame.atR])

/-- The walk over a list of items. -/
abbrev IH (P : Program) (N : FuncId → Nat) (nt : Nat) (b : Frame) (cs : List Frame) (rnd : Option Nat) (ih : List Item → Fr → List AD → AHeap → Option Left) : Prop :=
  ∀ {todo : List Item} {fr : Fr} {ds : List AD} {h : AHeap} {φ : Phi} {w : World} {a : Act} {L : Left}, R N φ h w → FrR φ nt fr a.tmps → AdR φ ds a.defers → RndOk φ b rnd → ih todo fr ds h = some L → RunOk P N nt φ h w b cs a todo L

theorem jumpC_ok {b : Frame} {cs : List Frame} {ih : List Item → Fr → List AD → AHeap → Option Left} (hih : IH P N nt b cs rnd ih) {φ : Phi} {h : AHeap} {w : World} {a : Act} {fr : Fr} {ds : List AD} {L : Left} {x : Option (List Item)} {j : Code} {k : List Item}
    (r : R N φ h w) (hf : FrR φ nt fr a.tmps) (hd : AdR φ ds a.defers) (hr : RndOk φ b rnd) (hx : jumpC rnd ih x j fr ds h = some L)
    (hs : ∀ k', x = some k' → step P (lone (b.atR a (.code j :: k)) cs w) = .next (lone (b.atR a k') cs w)) (hn : x = none → Away j k) : RunOk P N nt φ h w b cs a (.code j :: k) L := by
  unfold jumpC at hx
  split at hx
  · rename_i k'
    exact RunOk.head r (hs k' rfl) (hih r hf hd hr hx)
  · split at hx
    · cases hx
      exact ⟨φ, w, a, Sim.refl r, hf, hd, .inr ⟨j, k, rfl, hn rfl, Steps.refl _ _⟩⟩
    · cases hx

theorem ranOver_inv {ih : List Item → Fr → List AD → AHeap → Option Left} {ds : List AD} {k : List Item} {fr : Fr} {l : Nat} {x : Option (AV × AHeap)} {L : Left} (hx : ranOver ih ds k fr l x = some L) :
    ∃ v h st pending fn' tmps' params' assign' body' r', x = some (v, h) ∧ h.get l = some (.loop st pending fn' tmps' params' assign' body' r') ∧ st ≠ .busy ∧
      ih ((pending.map Item.code).toList ++ k) fr ds (h.put l (.loop .exhausted pending fn' tmps' params' assign' body' r')) = some L := by
  unfold ranOver at hx
  split at hx
  · rename_i v h
    split at hx
    · rename_i st pending fn' tmps' params' assign' body' r' hg
      split at hx
      · cases hx
      · rename_i hnb
        split at hx
        · exact ⟨v, h, st, _, fn', tmps', params', assign', body', r', rfl, hg, fun e => hnb e, hx⟩
        · exact ⟨v, h, st, _, fn', tmps', params', assign', body', r', rfl, hg, fun e => hnb e, hx⟩
    · cases hx
  · cases hx

/-- A record is written. -/
theorem Sim.putLoop {φ : Phi} {h : AHeap} {w : World} (r : R N φ h w) {l : Nat} {p : Loc} {o₀ o₁ : AObj} {q : Obj} (hb : φ l = some p) (ho : h.get l = some o₀) (hobj : ∀ w' : World, w'.heap[p.blk]? = some q → ObjR N φ w' p o₁) :
    Sim N φ h w φ (h.put l o₁) (w.putObj p.blk q) := by
  have hlt := (r.dom l p hb).2
  exact Sim.upd r hb ho rfl (fun d => AHeap.get_put _ _ _ _) (by simp) (fun k hk => World.putObj_heap_other hk) ⟨rfl, rfl, rfl⟩ (hobj _ (World.putObj_heap_same hlt))

theorem callA_inv {v : AV} {as : List AV} {f : FuncId} {l : List AV} (h : callA v as = some (.call f l)) : ∃ first captured, v = .func (.func f) first captured ∧ l = first ++ as ++ captured := by
  unfold callA at h
  split at h
  · cases h; exact ⟨_, _, rfl, rfl⟩
  · cases h
  · cases h

/-- The loop's record is laid: the call of the function, and what comes behind. -/
theorem range_core {b : Frame} {cs : List Frame} {ih : List Item → Fr → List AD → AHeap → Option Left} (hC : COk P N C) (hih : IH P N nt b cs rnd ih) {φ φ₁ : Phi} {h h₁ : AHeap} {w w₁ : World} {a : Act} {fr : Fr} {ds₁ : List AD} {L : Left}
    {g : Operand} {ps : Array Tmp} {assign body : Code} {k : List Item} {lb : Nat} {p : Loc} {mark : List Deferred} {fv : AV} {f : FuncId} {as : List AV} (s₁ : Sim N φ h w φ₁ h₁ w₁)
    (he : (Instr.enterLoop b.fn a.tmps ps assign body b.roundOf).run P w = .ok (p.blk, mark) w₁) (hp : φ₁ lb = some p) (hf : FrR φ₁ nt fr a.tmps) (hd : AdR φ₁ ds₁ (mark ++ a.defers)) (hr : RndOk φ₁ b rnd) (hv : VR φ₁ fv (a.eval g))
    (hc : callA fv [.func (.yield lb) [] []] = some (.call f as)) (hx : ranOver ih ds₁ k fr lb (C (.fn f as) h₁) = some L) : RunOk P N nt φ h w b cs a (.code (.rangeFunc g ps assign body) :: k) L := by
  obtain ⟨first, captured, rfl, rfl⟩ := callA_inv hc
  obtain ⟨v, h₂, st, pending, fn', tmps', params', assign', body', r', hCx, hg, hnb, hx⟩ := ranOver_inv hx
  generalize hz : a.eval g = z at hv
  cases hv with
  | func _ g' _ _ a' c' hfn ha hcp =>
    cases hfn with
    | same _ _ =>
      have hls : VRs φ₁ (first ++ [.func (.yield lb) [] []] ++ captured) ((a' ++ #[Value.func (.yield p.blk) #[] #[]]) ++ c').toList := by
        simp only [Array.toList_append]
        exact (ha.append (.cons _ _ _ _ (.func _ _ _ _ _ _ (.yield _ _ hp) .nil .nil) .nil)).append hcp
      obtain ⟨hent, hcall, _⟩ := hC.fn s₁.rel hCx hls
      have hstep := stepR_rangeFunc (P := P) (b := b) (a := a) (k := k) (cs := cs) (w := w) (g := g) (d := ⟨.fn (.func f) c', a' ++ #[Value.func (.yield p.blk) #[] #[]]⟩) (w₁' := w₁) (w₂ := w₁) (f := f) (args := (a' ++ #[Value.func (.yield p.blk) #[] #[]]) ++ c') he
        (by
          show (Deferred.ofValue (a.eval g) _).run P w₁ = _
          rw [hz]
          have hc : a.eval (.const (Value.func (.yield p.blk) #[] #[])) = Value.func (.yield p.blk) #[] #[] := rfl
          simp only [Deferred.ofValue, Sem.run_pure, rangeCall, List.map_toArray, List.map_cons, List.map_nil, hc]) (by simp only [Go.invoke]; exact hent)
      obtain ⟨e, w₂, fr', ⟨x, φ₂, rfl, hxv, s₂⟩, hsteps, _, hleave⟩ := hcall (b.atR { a with defers := mark ++ a.defers } (.inRangeFunc p.blk :: k) :: cs)
      have hp₂ := s₂.le _ _ hp
      obtain ⟨h0, tm, q, hobj, hfr, hq⟩ := s₂.rel.obj lb p _ hp₂ hg
      have hend := run_endLoop (P := P) hobj (by simpa using hnb)
      have hleave' := step_leave_returned (c := b.atR { a with defers := mark ++ a.defers } (.inRangeFunc p.blk :: k)) (cs := cs) hleave
      rw [finish_atR_inRangeFunc] at hleave'
      have hendstep := stepR_endRangeFunc (P := P) (b := b) (a := { a with defers := mark ++ a.defers }) (k := k) (cs := cs) (w := w₂) hend
      have s₃ := Sim.putLoop (N := N) (q := .loop { state := .exhausted, pending := pending, fn := fn', tmps := tm, params := params', assign := assign', body := body', defers := q.blk }) s₂.rel hp₂ hg
        (o₁ := .loop .exhausted pending fn' tmps' params' assign' body' r') fun w' hw' => ⟨h0, tm, q, hw', hfr, hq⟩
      refine RunOk.after (s₁.trans (s₂.trans s₃)) (.head hstep (Steps.trans hsteps (.head hleave' (.one hendstep)))) (hih (a := { a with defers := mark ++ a.defers }) s₃.rel ((hf.mono s₂.le).mono s₃.le) ((hd.mono s₂.le).mono s₃.le) ((hr.mono s₂.le).mono s₃.le) hx)

theorem run_enterLoop_inner {w : World} {l : Nat} {r : Loop} (fn : FuncId) (tmps : Array Value) (ps : Array Tmp) (assign body : Code) (h : w.heap[l]? = some (.loop r)) :
    (Instr.enterLoop fn tmps ps assign body (some l)).run P w = .ok (w.heap.size, []) (w.alloc (.loop { state := .ready, pending := none, fn, tmps, params := ps, assign, body, defers := r.defers })) := by
  unfold Instr.enterLoop
  simp only [Sem.run_bind, run_getLoop h, run_newObj_alloc, Result.andThen, Sem.run_pure]

theorem rangeOver_inv {fn : FuncId} {ih : List Item → Fr → List AD → AHeap → Option Left} {ps : Array Tmp} {assign body : Code} {ds : List AD} {k : List Item} {fr : Fr} {h : AHeap} {r : Nat} {x : Option OpR} {L : Left} (hx : rangeOver C fn ih ps assign body ds k fr h r x = some L) :
    ∃ f l, x = some (.call f l) ∧ ranOver ih ds k fr h.next (C (.fn f l) (h.new (.loop .ready none fn fr ps assign body r))) = some L := by
  unfold rangeOver at hx
  split at hx
  · exact ⟨_, _, rfl, hx⟩
  · cases hx

theorem Sim.newObj {φ : Phi} {h : AHeap} {w : World} (r : R N φ h w) {o : AObj} {q : Obj} (hobj : ∀ (ψ : Phi) (w' : World), φ.le ψ → w'.heap[w.heap.size]? = some q → ObjR N ψ w' ⟨w.heap.size, 0, 0, 0⟩ o) :
    Sim N φ h w (φ.put h.next ⟨w.heap.size, 0, 0, 0⟩) (h.new o) (w.alloc q) :=
  Sim.alloc r rfl (fun d => AHeap.get_new _ _ _) (by show (w.heap.push q).size = _; simp) (fun k hk => World.heap_push_old w _ k hk) ⟨rfl, rfl, rfl⟩ (hobj _ _ (Phi.le_put r _) (World.alloc_heap_new w q))

theorem rangeC_ok {fn : FuncId} {b : Frame} {cs : List Frame} {ih : List Item → Fr → List AD → AHeap → Option Left} (hC : COk P N C) (hN : N fn = nt) (hfn : b.fn = fn) (hih : IH P N nt b cs rnd ih) {φ : Phi} {h : AHeap} {w : World} {a : Act} {fr : Fr} {ds : List AD} {L : Left}
    {g : Operand} {ps : Array Tmp} {assign body : Code} {k : List Item} (r : R N φ h w) (hf : FrR φ nt fr a.tmps) (hd : AdR φ ds a.defers) (hr : RndOk φ b rnd)
    (hx : rangeC C fn rnd ih (opnd fr g) ps assign body k fr ds h = some L) : RunOk P N nt φ h w b cs a (.code (.rangeFunc g ps assign body) :: k) L := by
  unfold rangeC at hx
  split at hx
  · rename_i fv hfv
    have hv := opnd_VR hf hfv
    unfold rangeF at hx
    split at hx
    · -- the outermost loop
      have hbr : b.roundOf = none := hr
      obtain ⟨f, l, hcall, hx⟩ := rangeOver_inv hx
      have s₁ := Sim.newObj (N := N) (o := .deferred (some [])) (q := .deferred (some [])) r fun ψ w' _ hw => ⟨rfl, some [], hw, [], rfl, .nil⟩
      have hpd := Phi.put_same φ h.next ⟨w.heap.size, 0, 0, 0⟩
      have s₂ := Sim.newObj (N := N) (o := .loop .ready none fn fr ps assign body h.next) (q := .loop { state := .ready, pending := none, fn := fn, tmps := a.tmps, params := ps, assign := assign, body := body, defers := w.heap.size }) s₁.rel
        fun ψ w' hle hw => ⟨rfl, a.tmps, ⟨w.heap.size, 0, 0, 0⟩, hw, by rw [hN]; exact (hf.mono s₁.le).mono hle, hle _ _ hpd⟩
      have he := run_enterLoop_outer (P := P) (w := w) b.fn a.tmps ps assign body
      rw [← hbr] at he
      have hsz : (w.alloc (.deferred (some []))).heap.size = w.heap.size + 1 := by show (w.heap.push _).size = _; simp
      have s := s₁.trans s₂
      have hp : ((φ.put h.next ⟨w.heap.size, 0, 0, 0⟩).put (h.new (.deferred (some []))).next ⟨(w.alloc (.deferred (some []))).heap.size, 0, 0, 0⟩) (h.next + 1) = some ⟨w.heap.size + 1, 0, 0, 0⟩ := by
        rw [← hsz]; exact Phi.put_same _ _ _
      rw [hfn] at he
      exact range_core (p := ⟨w.heap.size + 1, 0, 0, 0⟩) hC hih s (by rw [hfn]; exact he) hp (hf.mono s.le) (.mark _ ⟨w.heap.size, 0, 0, 0⟩ _ _ (s₂.le _ _ hpd) (hd.mono s.le)) (hr.mono s.le) (hv.mono s.le) hcall hx
    · -- a loop in a round
      rename_i l₀
      split at hx
      · rename_i st pd fn0 tm0 ps0 as0 bd0 r0 hg
        obtain ⟨p₀, hp₀, hbr⟩ := hr
        obtain ⟨f, l, hcall, hx⟩ := rangeOver_inv hx
        obtain ⟨h0, tm', q, hobj, hfr0, hq⟩ := r.obj l₀ p₀ _ hp₀ hg
        have he := run_enterLoop_inner (P := P) (w := w) b.fn a.tmps ps assign body hobj
        have s := Sim.newObj (N := N) (o := .loop .ready none fn fr ps assign body r0) (q := .loop { state := .ready, pending := none, fn := fn, tmps := a.tmps, params := ps, assign := assign, body := body, defers := q.blk }) r
          fun ψ w' hle hw => ⟨rfl, a.tmps, q, hw, by rw [hN]; exact hf.mono hle, hle _ _ hq⟩
        rw [hfn] at he
        exact range_core (p := ⟨w.heap.size, 0, 0, 0⟩) (mark := []) hC hih s (by rw [hfn, hbr]; exact he) (Phi.put_same _ _ _) (hf.mono s.le) (hd.mono s.le) ⟨p₀, s.le _ _ hp₀, hbr⟩ (hv.mono s.le) hcall hx
      · cases hx
  · cases hx

theorem runA_ok (EO : EnvOk P E) (hC : COk P N C) (hmix : P.follows .mixedOrders = true) {fn : FuncId} {b : Frame} (hN : N fn = nt) (hfn : b.fn = fn) (cs : List Frame) : ∀ n, IH P N nt b cs rnd (runA E C nt fn rnd n)
  | 0, todo, fr, ds, h, φ, w, a, L, r, hf, hd, hr, hx => by cases hx
  | n + 1, todo, fr, ds, h, φ, w, a, L, r, hf, hd, hr, hx => by
    have hih : IH P N nt b cs rnd (runA E C nt fn rnd n) := by
      intro todo fr ds h φ w a L
      exact runA_ok EO hC hmix hN hfn cs n
    replace hx : todoC E C nt fn rnd (runA E C nt fn rnd n) todo fr ds h = some L := hx
    cases todo with
    | nil =>
      have : todoC E C nt fn rnd (runA E C nt fn rnd n) [] fr ds h = some { jump := none, s := ⟨fr, ds, h⟩ } := rfl
      rw [this] at hx
      cases hx
      exact ⟨φ, w, a, Sim.refl r, hf, hd, .inl ⟨rfl, Steps.refl _ _⟩⟩
    | cons x k =>
      replace hx : itemC E C nt fn rnd (runA E C nt fn rnd n) x k fr ds h = some L := hx
      unfold itemC at hx
      split at hx
      · rename_i c
        replace hx : codeC E C nt fn rnd (runA E C nt fn rnd n) c k fr ds h = some L := hx
        cases c with
        | skip => exact RunOk.head r stepR_skip (hih r hf hd hr hx)
        | region id ops draw =>
          replace hx : regC (runA E C nt fn rnd n) (regionA E C nt rnd ops draw fr.drop ds h) k = some L := hx
          cases hs : regionA E C nt rnd ops draw fr.drop ds h with
          | none => rw [hs] at hx; cases hx
          | some s =>
            rw [hs] at hx
            replace hx : runA E C nt fn rnd n k s.fr s.ds s.h = some L := hx
            obtain ⟨φ₁, w₁, a₁, h1, h2, h3, h4⟩ := regionA_ok EO hC hmix hr.isSome r (⟨hf.1, fun t v e => hf.2 t v (Fr.get_drop _ _ _ e)⟩ : FrR φ nt fr.drop a.tmps) hd hs id k cs
            exact RunOk.after h1 h4 (hih h1.rel h2 h3 (hr.mono h1.le) hx)
        | seq x y => exact RunOk.head r stepR_seq (hih r hf hd hr hx)
        | cond c x y =>
          replace hx : condC (runA E C nt fn rnd n) (opnd fr c) x y k fr ds h = some L := hx
          cases hc : opnd fr c with
          | none => rw [hc] at hx; cases hx
          | some v =>
            rw [hc] at hx
            replace hx : condV (runA E C nt fn rnd n) v x y k fr ds h = some L := hx
            have hv := opnd_VR hf hc
            unfold condV at hx
            split at hx
            · rename_i t
              generalize hz : a.eval c = z at hv
              cases hv
              refine RunOk.head r (stepR_cond hz) (hih r hf hd hr ?_)
              cases t with
              | true => exact hx
              | false => exact hx
            · cases hx
        | block id c => exact RunOk.head r stepR_block (hih r hf hd hr hx)
        | loop c => exact RunOk.head r stepR_loop (hih r hf hd hr hx)
        | rangeFunc g ps assign body => exact rangeC_ok hC hN hfn hih r hf hd hr hx
        | exit id =>
          exact jumpC_ok hih r hf hd hr hx (fun k' hk => stepR_exit hk) fun hn => .inr (.inl ⟨id, rfl, hn⟩)
        | scope c => exact RunOk.head r stepR_scope (hih r hf hd hr hx)
        | label l => exact RunOk.head r stepR_label (hih r hf hd hr hx)
        | goto l =>
          exact jumpC_ok hih r hf hd hr hx (fun k' hk => stepR_goto hk) fun hn => .inr (.inr ⟨l, rfl, hn⟩)
        | ret =>
          replace hx : some ({ jump := some .ret, s := ⟨fr, ds, h⟩ } : Left) = some L := hx
          cases hx
          exact ⟨φ, w, a, Sim.refl r, hf, hd, .inr ⟨.ret, k, rfl, .inl rfl, Steps.refl _ _⟩⟩
        | refuse why => cases hx
      · exact RunOk.head r stepR_inBlock (hih r hf hd hr hx)
      · exact RunOk.head r stepR_inScope (hih r hf hd hr hx)
      · exact RunOk.head r stepR_inLoop (hih r hf hd hr hx)
      · unfold beginC at hx
        split at hx
        · rename_i l
          split at hx
          · rename_i st pending fn' tmps' params' assign' body' r' hg
            split at hx
            · obtain ⟨p, hp, hbr⟩ := hr
              obtain ⟨h0, tm, q, hobj, hfr, hq⟩ := r.obj l p _ hp hg
              have hrun := run_beginRound (P := P) hobj rfl
              have s := Sim.putLoop (N := N) (q := .loop { state := .busy, pending := pending, fn := fn', tmps := tm, params := params', assign := assign', body := body', defers := q.blk }) r hp hg
                (o₁ := .loop .busy pending fn' tmps' params' assign' body' r') fun w' hw' => ⟨h0, tm, q, hw', hfr, hq⟩
              exact RunOk.after s (.one (stepR_beginRound hbr hrun)) (hih s.rel (hf.mono s.le) (hd.mono s.le) ⟨p, s.le _ _ hp, hbr⟩ hx)
            · cases hx
          · cases hx
        · cases hx
      · cases hx
end
end Go.Abs
