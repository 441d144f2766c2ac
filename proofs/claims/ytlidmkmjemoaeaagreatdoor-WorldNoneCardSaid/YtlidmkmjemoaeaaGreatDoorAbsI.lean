/- The abstract machine: a law that looks into none of its argument's parts; conditions: none but the law's own run. -/
import Derived.Test.YtlidmkmjemoaeaaGreatDoorAbsH
set_option linter.unusedVariables false
set_option linter.unusedSimpArgs false
set_option linter.unusedSectionVars false
namespace Go.Abs
open Go Go.ChangeShapes Go.WideShapes Go.ChangeAt Go.RowKit

/-- One cell? -/
def cellOk : Value → Bool
  | .agg _ => false
  | .tuple _ => false
  | _ => true
theorem cellOk_one {v : Value} (h : cellOk v = true) : v.cells = #[v] ∧ v.oneCell' = true := by
  cases v <;> first | exact ⟨rfl, rfl⟩ | cases h

theorem okWide_cell {P : Program} {w : World} {r : Reach} {base : Nat} {t : TypeId} {v : Value} (h : Cell.okWide P w r base t v) : cellOk v = true := by
  cases v with
  | agg a =>
    unfold Cell.okWide at h
    cases hu : P.underlying t with
    | none => simp [hu, Cell.ok] at h
    | some d => cases d <;> simp [hu, Cell.ok] at h
  | tuple a =>
    unfold Cell.okWide at h
    cases hu : P.underlying t with
    | none => simp [hu, Cell.ok] at h
    | some d => cases d <;> simp [hu, Cell.ok] at h
  | _ => rfl
/-- A struct that came in: its cells. -/
theorem okWide_cells {P : Program} {w : World} {r : Reach} {base : Nat} {t : TypeId} {fs : Array Field} {v : Value} (ht : P.underlying t = some (.struct fs)) (h : Value.okWide P w r base t v) :
    ∃ cs : Array Value, v = .agg cs ∧ cs.toList.length = P.cellsOf t ∧ ∀ c ∈ cs.toList, cellOk c = true := by
  simp only [Value.okWide, ht] at h
  obtain ⟨cs, h1, h2, ts, _, _, h3⟩ := h
  refine ⟨cs, h1, by simpa using h2, fun c hc => ?_⟩
  obtain ⟨i, hi, rfl⟩ := List.getElem_of_mem hc
  obtain ⟨u, _, hu⟩ := h3 i cs.toList[i] (by simp at hi ⊢)
  exact okWide_cell hu

/-- These values, as such that nothing looks into. -/
@[reducible] def Opq.of (l : List Value) (hl : ∀ v ∈ l, cellOk v = true) : Opq where
  val := fun i => l.getD i (.bool false)
  one := fun i => by
    rcases Nat.lt_or_ge i l.length with h | h
    · simp only [List.getD_eq_getElem?_getD, List.getElem?_eq_getElem h, Option.getD_some]
      exact (cellOk_one (hl _ (List.getElem_mem h))).1
    · simp only [List.getD_eq_getElem?_getD, List.getElem?_eq_none h, Option.getD_none]
      rfl
  cell := fun i => by
    rcases Nat.lt_or_ge i l.length with h | h
    · simp only [List.getD_eq_getElem?_getD, List.getElem?_eq_getElem h, Option.getD_some]
      exact (cellOk_one (hl _ (List.getElem_mem h))).2
    · simp only [List.getD_eq_getElem?_getD, List.getElem?_eq_none h, Option.getD_none]
      rfl

/-- so many of them, from one on -/
def opqs : Nat → Nat → List AV
  | _, 0 => []
  | i, n + 1 => .opq i :: opqs (i + 1) n

theorem opqs_VRs {l : List Value} {hl : ∀ v ∈ l, cellOk v = true} (φ : Phi) : ∀ (m : List Value) (i : Nat), l.drop i = m → @VRs (Opq.of l hl) φ (opqs i m.length) m
  | [], i, _ => @VRs.nil (Opq.of l hl) φ
  | v :: m, i, h => by
    have hv : l[i]? = some v := by
      have := congrArg (·[0]?) h
      simpa using this
    have ht : l.drop (i + 1) = m := by
      rw [← List.drop_drop, h]; rfl
    have e : (Opq.of l hl).val i = v := by
      show l.getD i (.bool false) = v
      simp [List.getD_eq_getElem?_getD, hv]
    have := @VR.opq (Opq.of l hl) φ i
    rw [e] at this
    exact @VRs.cons (Opq.of l hl) φ _ _ _ _ this (opqs_VRs φ m (i + 1) ht)

/-- A law over one struct of cells that looks into none of them. -/
theorem calls_opq {P : Program} (hmix : P.follows .mixedOrders = true) (hname : namesOk P = true) {B : FuncId → Nat} {S n : Nat} {f : FuncId} (l : List Value) (hl : ∀ v ∈ l, cellOk v = true)
    (hrun : isTrue (callsA (mkEnv P) B (fun _ => none) S n (.fn f [.agg (opqs 0 l.length)]) h0) = true) (w : World) : Calls P f #[.agg l.toArray] w fun e w' => e = .returned (.bool true) ∧ Below w.heap.size w w' :=
  @calls_true (Opq.of l hl) P hmix hname B _ (@noneKnown (Opq.of l hl) _ _) S n f _ _ hrun (@VRs.cons (Opq.of l hl) _ _ _ _ _ (@VR.agg (Opq.of l hl) _ _ _ (opqs_VRs _ l 0 rfl)) (@VRs.nil (Opq.of l hl) _)) w
end Go.Abs
