/- The abstract machine: a region in any order: what stays; no conditions. -/
import Derived.Test.YtlidmkmjemoaeaaGreatDoorAbsF4
set_option linter.unusedVariables false
set_option linter.unusedSimpArgs false
set_option linter.unusedSectionVars false
namespace Go.Abs
variable [Opq]
open Go

theorem setD_get {nt : Nat} {fr fr' : Fr} {dst : Option Nat} {v : AV} (h : setD nt fr dst v = some fr') (t : Nat) : fr'.get t = if dst = some t then some v else fr.get t := by
  unfold setD at h
  split at h
  · cases h; simp
  · rename_i d
    split at h
    · cases h
      rw [Fr.get_set]
      by_cases e : t = d
      · subst e; simp
      · rw [if_neg e, if_neg (fun h => e (by cases h; rfl))]
    · cases h
theorem setD_lt {nt : Nat} {fr fr' : Fr} {d : Nat} {v : AV} (h : setD nt fr (some d) v = some fr') : d < nt := by
  unfold setD at h
  simp only at h
  split at h
  · omega
  · cases h

/-- What is given: the walk in the order of the text. -/
structure Ctx (P : Program) (E : Env) (N : FuncId → Nat) (C : CallT) (nt : Nat) (rnd : Option Nat) (ops : Array Oper) (F : Nat → Fr) (D : Nat → List AD) (H : Nat → AHeap) (ss : List Seen) (φ₀ : Phi) (w₀ : World) (a₀ : Act) : Prop where
  EO : EnvOk P E
  hC : COk P N C
  RO : ROk E ops
  st : ∀ j o, ops[j]? = some o → StepC E C nt rnd ops ss j o (F j) (D j) (H j) (F (j + 1)) (D (j + 1)) (H (j + 1))
  sn : ∀ x ∈ ss, ∀ e, e < ops.size → WE E ops F e → ((if e + 1 ≤ x.i then Bf ops e x.i else Bf ops x.i e) ∨ (opA E (H e) x.fr x.op = some (.val x.v) ∧ ∃ e', Nxt (WE E ops F) H ops.size (e + 1) e' ∧ opA E (H e') x.fr x.op = some (.val x.v)))
  r0 : R N φ₀ (H 0) w₀
  f0 : FrR φ₀ nt (F 0) a₀.tmps
  d0 : AdR φ₀ (D 0) a₀.defers

section
variable {P : Program} {E : Env} {N : FuncId → Nat} {C : CallT} {nt : Nat} {rnd : Option Nat} {ops : Array Oper}

theorem StepC.get {ss : List Seen} {j : Nat} {o : Oper} {fr fr' : Fr} {ds ds' : List AD} {h h' : AHeap} (s : StepC E C nt rnd ops ss j o fr ds h fr' ds' h') : ∃ v, setD nt fr o.dst v = some fr' := by
  cases s with
  | skip _ hf _ _ => exact ⟨_, hf⟩
  | pure _ _ _ _ hf _ _ => exact ⟨_, hf⟩
  | look _ _ _ _ hf _ _ _ => exact ⟨_, hf⟩
  | alloc _ _ _ _ hf _ => exact ⟨_, hf⟩
  | eff _ _ _ _ _ _ _ hf _ => exact ⟨_, hf⟩

theorem StepC.ghost (EO : EnvOk P E) (hC : COk P N C) {ss : List Seen} {j : Nat} {o : Oper} (ho : ops[j]? = some o) {fr fr' : Fr} {ds ds' : List AD} {h h' : AHeap} (s : StepC E C nt rnd ops ss j o fr ds h fr' ds' h')
    {φ : Phi} {w : World} {a : Act} (r : R N φ h w) (hf : FrR φ nt fr a.tmps) : ∃ (φ' : Phi) (w' : World) (a' : Act), Sim N φ h w φ' h' w' ∧ FrR φ' nt fr' a'.tmps := by
  let b : Frame := { (default : Frame) with roundOf := rnd }
  have go : ∀ (y : OpR) (v : AV) (h₁ : AHeap) (dd : List AD), want ops fr o = some true → opA E h fr o.op = some y → outR C rnd h y = some (v, h₁, dd) → setD nt fr o.dst v = some fr' →
      ∃ (φ' : Phi) (w' : World) (a' : Act), Sim N φ h w φ' h₁ w' ∧ FrR φ' nt fr' a'.tmps := by
    intro y v h₁ dd hw hx hy hs
    obtain ⟨x, φ', w', D, g1, g2, g3, _⟩ := op_step (b := b) EO hC r hf ho (want_ok hf hw) hx hy rfl [] [] []
    exact ⟨φ', w', { a with defers := D ++ a.defers }.put o.dst x, g2, FrR.put (a := { a with defers := D ++ a.defers }) (hf.mono g2.le) g1 hs⟩
  cases s with
  | skip hw hs _ hh => subst hh; exact ⟨φ, w, a.put o.dst undef, Sim.refl r, hf.put (.tuple _ _ .nil) hs⟩
  | pure v hw hc hx hs _ hh => subst hh; exact go _ _ _ _ hw hx rfl hs
  | look v hw hc hx hs _ hh _ => subst hh; exact go _ _ _ _ hw hx rfl hs
  | alloc v hw hc hx hs _ => exact go _ _ _ _ hw hx rfl hs
  | eff y v dd hw hc hx hy hs _ => exact go _ _ _ _ hw hx hy hs
end

/-- An operation that makes a block, done. -/
def AL (E : Env) (ops : Array Oper) (F : Nat → Fr) (j : Nat) : Prop := ∃ o, ops[j]? = some o ∧ want ops (F j) o = some true ∧ cls E o.op = .alloc

namespace Ctx
variable {P : Program} {E : Env} {N : FuncId → Nat} {C : CallT} {nt : Nat} {rnd : Option Nat} {ops : Array Oper} {F : Nat → Fr} {D : Nat → List AD} {H : Nat → AHeap} {ss : List Seen} {φ₀ : Phi} {w₀ : World} {a₀ : Act}
  (X : Ctx P E N C nt rnd ops F D H ss φ₀ w₀ a₀)
include X

theorem ghost : ∀ i, i ≤ ops.size → ∃ (φ : Phi) (w : World) (a : Act), Sim N φ₀ (H 0) w₀ φ (H i) w ∧ FrR φ nt (F i) a.tmps
  | 0, _ => ⟨φ₀, w₀, a₀, Sim.refl X.r0, X.f0⟩
  | i + 1, h => by
    obtain ⟨φ, w, a, h1, h2⟩ := ghost i (by omega)
    have ho : ops[i]? = some ops[i] := Array.getElem?_eq_getElem (by omega)
    obtain ⟨φ', w', a', h3, h4⟩ := (X.st i _ ho).ghost X.EO X.hC ho h1.rel h2
    exact ⟨φ', w', a', h1.trans h3, h4⟩

theorem step1 {i : Nat} (hi : i < ops.size) : ∃ (φ : Phi) (w : World) (φ' : Phi) (w' : World), Sim N φ (H i) w φ' (H (i + 1)) w' := by
  obtain ⟨φ, w, a, h1, h2⟩ := X.ghost i (by omega)
  have ho : ops[i]? = some ops[i] := Array.getElem?_eq_getElem hi
  obtain ⟨φ', w', a', h3, h4⟩ := (X.st i _ ho).ghost X.EO X.hC ho h1.rel h2
  exact ⟨φ, w, φ', w', h3⟩

theorem next_mono {i : Nat} : ∀ {j : Nat}, i ≤ j → j ≤ ops.size → (H i).next ≤ (H j).next
  | 0, h, _ => by have : i = 0 := by omega
                  subst this; exact Nat.le_refl _
  | j + 1, h, hj => by
    by_cases e : i = j + 1
    · subst e; exact Nat.le_refl _
    · obtain ⟨φ, w, φ', w', s⟩ := X.step1 (i := j) (by omega)
      exact Nat.le_trans (next_mono (j := j) (by omega) (by omega)) s.next

theorem fresh {i b : Nat} (hi : i ≤ ops.size) (hb : (H i).next ≤ b) : (H i).get b = none := by
  obtain ⟨φ, w, a, h1, h2⟩ := X.ghost i hi
  exact h1.rel.fresh b hb

theorem live0 {i b : Nat} (hi : i ≤ ops.size) (hb : b < (H 0).next) (h : (H 0).get b = none) : (H i).get b = none := by
  obtain ⟨φ, w, a, h1, h2⟩ := X.ghost i hi
  exact h1.live b hb h

theorem hframe0 {i b : Nat} (hi : i ≤ ops.size) (hb : b < (H 0).next) (h : φ₀ b = none) : (H i).get b = (H 0).get b := by
  obtain ⟨φ, w, a, h1, h2⟩ := X.ghost i hi
  exact h1.hframe b hb h

theorem bel {i t : Nat} {v : AV} (hi : i ≤ ops.size) (h : (F i).get t = some v) : ∃ φ x, VR φ v x ∧ ∀ b p, φ b = some p → b < (H i).next := by
  obtain ⟨φ, w, a, h1, h2⟩ := X.ghost i hi
  exact ⟨φ, _, h2.2 t v h, fun b p e => (h1.rel.dom b p e).1⟩

omit X in
theorem at_ {i : Nat} (hi : i < ops.size) : ∃ o, ops[i]? = some o := ⟨_, Array.getElem?_eq_getElem hi⟩

/-- Without an effect nothing that is there changes. -/
theorem quiet {i : Nat} (hi : i < ops.size) (hw : ¬ WE E ops F i) : D (i + 1) = D i ∧ (H (i + 1) = H i ∨ (AL E ops F i ∧ ∃ o, H (i + 1) = (H i).new o)) := by
  obtain ⟨o, ho⟩ := at_ hi
  cases X.st i o ho with
  | skip _ _ hd hh => exact ⟨hd, .inl hh⟩
  | pure _ _ _ _ _ hd hh => exact ⟨hd, .inl hh⟩
  | look _ _ _ _ _ hd hh _ => exact ⟨hd, .inl hh⟩
  | alloc v hw' hc hx _ hd => exact ⟨hd, .inr ⟨⟨o, ho, hw', hc⟩, let ⟨q, hq, _⟩ := alloc_spec hc hx; ⟨q, hq⟩⟩⟩
  | eff y v dd hw' hc hx hy _ hd => exact absurd ⟨o, ho, hw', hc⟩ hw

theorem seg {p : Nat} : ∀ {q : Nat}, p ≤ q → q ≤ ops.size → (∀ j, p ≤ j → j < q → ¬ WE E ops F j) → D q = D p ∧ ∀ b, b < (H p).next → (H q).get b = (H p).get b
  | 0, h, _, _ => by have : p = 0 := by omega
                     subst this; exact ⟨rfl, fun _ _ => rfl⟩
  | q + 1, h, hq, hw => by
    by_cases e : p = q + 1
    · subst e; exact ⟨rfl, fun _ _ => rfl⟩
    · obtain ⟨h1, h2⟩ := seg (q := q) (by omega) (by omega) fun j h1 h2 => hw j h1 (by omega)
      obtain ⟨h3, h4⟩ := X.quiet (i := q) (by omega) (hw q (by omega) (by omega))
      refine ⟨h3.trans h1, fun b hb => ?_⟩
      rw [← h2 b hb]
      rcases h4 with h4 | ⟨_, o, h4⟩
      · rw [h4]
      · rw [h4, AHeap.get_new, if_neg]
        have := X.next_mono (i := p) (j := q) (by omega) (by omega)
        omega

theorem Fkeep {i t : Nat} : ∀ {j : Nat}, i ≤ j → j ≤ ops.size → (∀ k o, i ≤ k → k < j → ops[k]? = some o → o.dst ≠ some t) → (F j).get t = (F i).get t
  | 0, h, _, _ => by have : i = 0 := by omega
                     subst this; rfl
  | j + 1, h, hj, hk => by
    by_cases e : i = j + 1
    · subst e; rfl
    · have h1 := Fkeep (j := j) (by omega) (by omega) fun k o h1 h2 => hk k o h1 (by omega)
      obtain ⟨o, ho⟩ := at_ (ops := ops) (i := j) (by omega)
      obtain ⟨v, hv⟩ := (X.st j o ho).get
      rw [setD_get hv, if_neg (hk j o (by omega) (by omega) ho), h1]

/-- Blocks are born once. -/
theorem once {i j b : Nat} (hi : i < ops.size) (hj : j < ops.size) (h1 : (H i).next ≤ b) (h2 : b < (H (i + 1)).next) (h3 : (H j).next ≤ b) (h4 : b < (H (j + 1)).next) : i = j := by
  rcases Nat.lt_trichotomy i j with h | h | h
  · have := X.next_mono (i := i + 1) (j := j) (by omega) (by omega)
    omega
  · exact h
  · have := X.next_mono (i := j + 1) (j := i) (by omega) (by omega)
    omega
end Ctx

/-! ### what stays, while the operations are done in another order -/
section inv
variable (E : Env) (N : FuncId → Nat) (nt : Nat) (ops : Array Oper) (F : Nat → Fr) (D : Nat → List AD) (H : Nat → AHeap) (φ₀ : Phi) (w₀ : World)

/-- which ones are done; the next effect -/
structure InvS (S : Nat → Prop) (e : Nat) : Prop where
  sn : ∀ i, S i → i < ops.size
  closed : ∀ i j, S i → Edge1 ops j i → S j
  en : e ≤ ops.size
  eW : e < ops.size → WE E ops F e
  eS : ∀ i, WE E ops F i → (S i ↔ i < e)

/-- the frame -/
structure InvF (S : Nat → Prop) (φ : Phi) (a : Act) : Prop where
  size : a.tmps.size = nt
  slot : ∀ j o d v, S j → ops[j]? = some o → o.dst = some d → (F (j + 1)).get d = some v → VR (φ.cut (H (j + 1)).next) v (a.tmps.getD d undef)
  init : ∀ t v, (∀ j o, S j → ops[j]? = some o → o.dst ≠ some t) → (F 0).get t = some v → VR (φ.cut (H 0).next) v (a.tmps.getD t undef)

/-- the memory -/
structure InvH (S : Nat → Prop) (e : Nat) (φ : Phi) (w : World) : Prop where
  dom : ∀ b p, φ b = some p → p.blk < w.heap.size
  born : ∀ b p, φ b = some p → b < (H 0).next ∨ ∃ j, S j ∧ (H j).next ≤ b ∧ b < (H (j + 1)).next
  obj1 : ∀ b p o, φ b = some p → b < (H e).next → (H e).get b = some o → ObjR N (φ.cut (H e).next) w p o
  obj2 : ∀ b p o j, φ b = some p → (H e).next ≤ b → j < ops.size → (H j).next ≤ b → b < (H (j + 1)).next → (H (j + 1)).get b = some o → ObjR N (φ.cut (H (j + 1)).next) w p o
  inj : ∀ b b' p p' o o', φ b = some p → φ b' = some p' → b < (H e).next → b' < (H e).next → (H e).get b = some o → (H e).get b' = some o' → p.blk = p'.blk → b = b'
  sep : ∀ b b' p p', φ b = some p → φ b' = some p' → (H e).next ≤ b → b ≠ b' → p.blk ≠ p'.blk
  unb : ∀ j, j < e → ¬ S j → AL E ops F j → (H e).get (H j).next = (H (j + 1)).get (H j).next
  le : φ₀.le φ
  new : ∀ b p, φ b = some p → φ₀ b = some p ∨ ((H 0).next ≤ b ∧ (w₀.heap.size ≤ p.blk ∨ ∃ b₀ p₀ o₀, φ₀ b₀ = some p₀ ∧ (H 0).get b₀ = some o₀ ∧ p₀.blk = p.blk))
  wframe : ∀ k, k < w₀.heap.size → (∀ b p o, φ₀ b = some p → (H 0).get b = some o → p.blk ≠ k) → w.heap[k]? = w₀.heap[k]?
  size0 : w₀.heap.size ≤ w.heap.size
  alike : Alike w₀ w
end inv

/-- One more is done. -/
def Also (S : Nat → Prop) (i : Nat) : Nat → Prop := fun j => S j ∨ j = i

section steps
variable {P : Program} {E : Env} {N : FuncId → Nat} {C : CallT} {nt : Nat} {rnd : Option Nat} {ops : Array Oper} {F : Nat → Fr} {D : Nat → List AD} {H : Nat → AHeap} {ss : List Seen} {φ₀ : Phi} {w₀ : World} {a₀ : Act}
  (X : Ctx P E N C nt rnd ops F D H ss φ₀ w₀ a₀) {S : Nat → Prop} {e i : Nat} {φ : Phi} {a : Act} {w : World} {o : Oper}

theorem InvF.mono {φ' : Phi} (f : InvF nt ops F H S φ a) (h : φ.le φ') : InvF nt ops F H S φ' a :=
  ⟨f.size, fun j o d v h1 h2 h3 h4 => (f.slot j o d v h1 h2 h3 h4).mono (Phi.cut_le_cut h _), fun t v h1 h2 => (f.init t v h1 h2).mono (Phi.cut_le_cut h _)⟩

theorem InvF.defers {ds : List Deferred} (f : InvF nt ops F H S φ a) : InvF nt ops F H S φ { a with defers := ds } := ⟨f.size, f.slot, f.init⟩

theorem put_getD (a : Act) (dst : Option Nat) (x : Value) (t : Nat) : (a.put dst x).tmps.getD t undef = if dst = some t ∧ t < a.tmps.size then x else a.tmps.getD t undef := by
  cases dst with
  | none => simp [Act.put]
  | some d =>
    by_cases e : d = t
    · subst e
      by_cases hl : d < a.tmps.size <;> simp [Act.put, Array.getD_eq_getD_getElem?, Array.getElem?_setIfInBounds, hl]
    · simp [Act.put, Array.getD_eq_getD_getElem?, Array.getElem?_setIfInBounds, e]

theorem InvF.put (X : Ctx P E N C nt rnd ops F D H ss φ₀ w₀ a₀) (f : InvF nt ops F H S φ a) (ho : ops[i]? = some o) (hi : ¬ S i) {v : AV} {x : Value} (hs : setD nt (F i) o.dst v = some (F (i + 1)))
    (hv : ∀ d, o.dst = some d → VR (φ.cut (H (i + 1)).next) v x) : InvF nt ops F H (Also S i) φ (a.put o.dst x) where
  size := by rw [← f.size]; cases o.dst <;> simp [Act.put]
  slot := fun j o' d u hj ho' hd hu => by
    rw [put_getD]
    by_cases hji : j = i
    · subst hji
      rw [ho] at ho'; cases ho'
      rw [setD_get hs, if_pos hd] at hu
      cases hu
      rw [hd] at hs
      rw [if_pos ⟨hd, by rw [f.size]; exact setD_lt hs⟩]
      exact hv d hd
    · rw [if_neg]
      · exact f.slot j o' d u (hj.resolve_right hji) ho' hd hu
      · intro ⟨h1, _⟩
        exact X.RO.dsts j i o' o d hji ho' ho hd h1
  init := fun t u ht hu => by
    rw [put_getD, if_neg]
    · exact f.init t u (fun j o' hj => ht j o' (.inl hj)) hu
    · intro ⟨h1, _⟩
      exact ht i o (.inr rfl) ho h1

theorem InvH.also (m : InvH E N ops F H φ₀ w₀ S e φ w) : InvH E N ops F H φ₀ w₀ (Also S i) e φ w :=
  { m with
    born := fun b p h => (m.born b p h).imp id fun ⟨j, h1, h2⟩ => ⟨j, .inl h1, h2⟩
    unb := fun j h1 h2 h3 => m.unb j h1 (fun h => h2 (.inl h)) h3 }

theorem InvS.also (s : InvS E ops F S e) (hi : i < ops.size) (hr : ∀ j, Edge1 ops j i → S j) (hw : ¬ WE E ops F i) : InvS E ops F (Also S i) e where
  sn := fun j h => h.elim (s.sn j) fun h => h ▸ hi
  closed := fun j k h hk => h.elim (fun h => .inl (s.closed j k h hk)) fun h => .inl (hr k (h ▸ hk))
  en := s.en
  eW := s.eW
  eS := fun j hj => ⟨fun h => (s.eS j hj).1 (h.resolve_right fun h => hw (h ▸ hj)), fun h => .inl ((s.eS j hj).2 h)⟩

/-- A frame that has some slots of another alone. -/
noncomputable def tlOf (fr : Fr) : List Nat → TL
  | [] => .nil
  | t :: l => match fr.get t with
    | some v => .cons t v (tlOf fr l)
    | none => tlOf fr l
theorem tlOf_get (fr : Fr) (t : Nat) : ∀ l, (tlOf fr l).get t = if t ∈ l then fr.get t else none
  | [] => by simp [tlOf, TL.get_nil]
  | u :: l => by
    simp only [tlOf]
    cases h : fr.get u with
    | some v =>
      simp only [TL.get_cons, tlOf_get fr t l]
      by_cases e : u = t
      · subst e; simp [h]
      · have : ¬ t = u := fun h => e h.symm
        simp [e, this]
    | none =>
      simp only [tlOf_get fr t l]
      by_cases e : t = u
      · subst e; simp [h]
      · simp [e]
noncomputable def rfr (fr : Fr) (l : List Nat) : Fr := .mk 0 (tlOf fr l) .lf
theorem rfr_get (fr : Fr) (l : List Nat) (t : Nat) : (rfr fr l).get t = if t ∈ l then fr.get t else none := by
  rw [rfr, Fr.get_mk, if_pos (Nat.zero_le _), tlOf_get]

theorem rfr_opA {fr : Fr} {o : Oper} (h : AHeap) : opA E h (rfr fr (rdsOf ops o)) o.op = opA E h fr o.op :=
  opA_congr fun t ht => by rw [rfr_get, if_pos (by simp only [rdsOf, List.mem_append]; exact .inl ht)]
theorem rfr_want {fr : Fr} {o : Oper} : want ops (rfr fr (rdsOf ops o)) o = want ops fr o := by
  unfold want
  cases hg : o.guard with
  | none => rfl
  | some g =>
    obtain ⟨j, wt⟩ := g
    simp only
    cases hd : (ops[j]?).bind (·.dst) with
    | none => rfl
    | some d =>
      simp only [wantD]
      rw [rfr_get, if_pos]
      simp only [rdsOf, List.mem_append, hg, hd]
      exact .inr (by simp)

/-- What an operation reads, when its turn has come. -/
theorem InvF.reads (X : Ctx P E N C nt rnd ops F D H ss φ₀ w₀ a₀) (s : InvS E ops F S e) (f : InvF nt ops F H S φ a) (ho : ops[i]? = some o) (hi : ¬ S i) (hr : ∀ j, Edge1 ops j i → S j) :
    FrR (φ.cut (H i).next) nt (rfr (F i) (rdsOf ops o)) a.tmps := by
  have hin : i < ops.size := (Array.getElem?_eq_some_iff.1 ho).1
  refine ⟨f.size, fun t v hv => ?_⟩
  rw [rfr_get] at hv
  split at hv
  · rename_i ht
    by_cases hw : ∃ j o', S j ∧ ops[j]? = some o' ∧ o'.dst = some t
    · obtain ⟨j, o', hj, ho', hd⟩ := hw
      have hjn := s.sn j hj
      have hji : j < i := by
        rcases Nat.lt_trichotomy j i with h | h | h
        · exact h
        · exact absurd (h ▸ hj) hi
        · rcases X.RO.pair i j o o' h ho ho' with hb | ⟨_, _, h3⟩
          · exact absurd (hb.closed s.closed fun k hk => s.closed j k hj hk) hi
          · exact absurd ht (h3 t hd)
      have hk := X.Fkeep (i := j + 1) (j := i) (t := t) (by omega) (by omega) fun k ok h1 h2 hok hd' => X.RO.dsts j k o' ok t (by omega) ho' hok hd hd'
      rw [hk] at hv
      exact (f.slot j o' t v hj ho' hd hv).mono (Phi.cut_mono _ (X.next_mono (by omega) (by omega)))
    · have hw' : ∀ j o', S j → ops[j]? = some o' → o'.dst ≠ some t := fun j o' h1 h2 h3 => hw ⟨j, o', h1, h2, h3⟩
      have hk := X.Fkeep (i := 0) (j := i) (t := t) (by omega) (by omega) fun k ok h1 h2 hok hd => by
        rcases X.RO.pair k i ok o h2 hok ho with hb | ⟨_, h3, _⟩
        · exact hw ⟨k, ok, hb.closed s.closed hr, hok, hd⟩
        · exact absurd ht (h3 t hd)
      rw [hk] at hv
      exact (f.init t v hw' hv).mono (Phi.cut_mono _ (X.next_mono (by omega) (by omega)))
  · cases hv
end steps
end Go.Abs
