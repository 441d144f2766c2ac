/- The abstract machine: a function whose closed run is known, as one that is not walked; a law that was walked answers true; no conditions. -/
import Derived.Test.YtlidmkmjemoaeaaGreatDoorAbsV
set_option linter.unusedVariables false
set_option linter.unusedSimpArgs false
set_option linter.unusedSectionVars false
namespace Go.Abs
open Go Go.ChangeShapes Go.WideShapes Go.ChangeAt Go.RowKit
section
variable [Opq]

theorem R.later {N : FuncId → Nat} {φ : Phi} {h : AHeap} {w w' : World} (r : R N φ h w) (hs : w.heap.size ≤ w'.heap.size) (hk : ∀ k, k < w.heap.size → w'.heap[k]? = w.heap[k]?) : R N φ h w' :=
  ⟨fun b p hb => ⟨(r.dom b p hb).1, Nat.lt_of_lt_of_le (r.dom b p hb).2 hs⟩, fun b p o hb ho => (r.obj b p o hb ho).of_heap (hk _ (r.dom b p hb).2), r.inj, r.fresh⟩

/-- What a run out of no memory leaves, leaves any memory as it was. -/
theorem Sim.apart {N : FuncId → Nat} {φ φ₁ : Phi} {h h₁ : AHeap} {w w' : World} (r : R N φ h w) (s : Sim N (fun _ => none) h0 w φ₁ h₁ w') : Sim N φ h w φ h w' where
  le := fun _ _ e => e
  rel := r.later s.size fun k hk => s.wframe k hk fun _ _ _ h => (by cases h)
  new := fun _ _ e => .inl e
  dom := fun b p e => (r.dom b p e).1
  live := fun _ _ e => e
  next := Nat.le_refl _
  hframe := fun _ _ _ => rfl
  size := s.size
  wframe := fun k hk _ => s.wframe k hk fun _ _ _ h => (by cases h)
  os := s.os
  tape := s.tape
  output := s.output

/-- A function without arguments that answers true, and leaves the memory. -/
def trueG (xs : List AV) (h : AHeap) : Option (AV × AHeap) := match xs with
  | [] => some (.bool true, h)
  | _ => none
def knownTrue (f : FuncId) : FuncId → Option (List AV → AHeap → Option (AV × AHeap)) := fun x => if x = f then some trueG else none

theorem iok_true {P : Program} (hmix : P.follows .mixedOrders = true) (hname : namesOk P = true) {B : FuncId → Nat} {I : FuncId → Option (List AV → AHeap → Option (AV × AHeap))} (hI : IOk P (nOf P) I) {S n : Nat} {f : FuncId}
    (hrun : isTrue (callsA (mkEnv P) B I S n (.fn f []) h0) = true) : IOk P (nOf P) (knownTrue f) := by
  intro x g hg φ h w r as v h' L hx hl
  unfold knownTrue at hg
  split at hg
  · rename_i e
    subst e
    cases hg
    cases as with
    | cons a l => cases hx
    | nil =>
      cases hx
      generalize hz : L.toList = z at hl
      cases hl
      obtain ⟨h₁, hx⟩ := isTrue_spec hrun
      have hL : VRs (fun _ => none) [] L.toList := by rw [hz]; exact VRs.nil
      obtain ⟨c1, c2, c3⟩ := (callsA_ok (mkEnv_ok P) hmix (nOf_ok P) (namesOk_spec hname) hI (S := S) n).fn (R.empty (nOf P) w) hx hL
      have conv : ∀ e w', Ret (nOf P) (fun _ => none) h0 w (.bool true) h₁ e w' → Ret (nOf P) φ h w (.bool true) h e w' := by
        rintro e w' ⟨x, φ', rfl, hv, hs⟩
        cases hv
        exact ⟨_, φ, rfl, .bool _, Sim.apart r hs⟩
      refine ⟨c1, fun cs => ?_, fun c cs hu => ?_⟩
      · obtain ⟨e, w', fr, hr, h2⟩ := c2 cs
        exact ⟨e, w', fr, conv e w' hr, h2⟩
      · obtain ⟨e, u, w', fr, ⟨hu', hr⟩, h2⟩ := c3 c cs hu
        exact ⟨e, u, w', fr, ⟨hu', conv e w' hr⟩, h2⟩
  · cases hg

/-- A law that was walked. -/
theorem calls_will {P : Program} (hmix : P.follows .mixedOrders = true) (hname : namesOk P = true) {X : Mach} (hE : X.E = mkEnv P) (hI : IOk P (nOf P) X.I) {f : FuncId} {as : List AV} {L : Array Value}
    (hw : Will X f as h0 fun v _ => v = .bool true) (hl : VRs (fun _ => none) as L.toList) (w : World) : Calls P f L w fun e w' => e = .returned (.bool true) ∧ Below w.heap.size w w' := by
  obtain ⟨v, h', ⟨N, hN⟩, rfl⟩ := hw
  have := hN N N (Nat.le_refl _) (Nat.le_refl _)
  unfold Mach.calls at this
  rw [hE] at this
  exact calls_true hmix hname hI (S := N) (n := N) (by rw [this]; rfl) hl w
end

/-! ### arguments of numbers -/
theorem okWide_row {P : Program} {w : World} {r : Reach} {base : Nat} {t : TypeId} {v : Value} (ht : (∃ fs, P.underlying t = some (.struct fs)) ∨ ∃ n e, P.underlying t = some (.array n e)) (h : Value.okWide P w r base t v) :
    ∃ cs : Array Value, v = .agg cs ∧ cs.toList.length = P.cellsOf t ∧ Row.okWide P w r base t cs := by
  rcases ht with ⟨fs, ht⟩ | ⟨n, e, ht⟩
  · simp only [Value.okWide, ht] at h
    obtain ⟨cs, h1, h2, h3⟩ := h
    exact ⟨cs, h1, by simpa using h2, h3⟩
  · simp only [Value.okWide, ht] at h
    obtain ⟨cs, h1, h2, h3⟩ := h
    exact ⟨cs, h1, by simpa using h2, h3⟩
theorem cell_int {P : Program} {w : World} {r : Reach} {base : Nat} {t : TypeId} {k : IntKind} {v : Value} (ht : P.underlying t = some (.int k)) (h : Cell.okWide P w r base t v) : ∃ n, v = .int k n ∧ k.has n := by
  unfold Cell.okWide Cell.ok at h
  rw [ht] at h
  cases v <;> simp at h
  obtain ⟨rfl, h⟩ := h
  exact ⟨_, rfl, h⟩
theorem row_ints {P : Program} {w : World} {r : Reach} {base : Nat} {t : TypeId} {k : IntKind} {cs : Array Value} {ts : List TypeId} (hts : P.cellTypes P.depth t = some ts) (hu : ∀ u ∈ ts, P.underlying u = some (.int k)) (h : Row.okWide P w r base t cs) :
    ∃ zs : List Int, cs.toList = zs.map (Value.int k) := by
  obtain ⟨ts', h1, _, h3⟩ := h
  rw [hts] at h1
  cases h1
  have : ∀ l : List Value, (∀ v ∈ l, ∃ n, v = .int k n) → ∃ zs : List Int, l = zs.map (Value.int k) := by
    intro l
    induction l with
    | nil => intro _; exact ⟨[], rfl⟩
    | cons v l ih =>
      intro hl
      obtain ⟨n, rfl⟩ := hl v (by simp)
      obtain ⟨zs, rfl⟩ := ih fun x hx => hl x (by simp [hx])
      exact ⟨n :: zs, rfl⟩
  refine this cs.toList fun v hv => ?_
  obtain ⟨i, hi, rfl⟩ := List.getElem_of_mem hv
  obtain ⟨u, hu1, hu2⟩ := h3 i cs.toList[i] (by simp at hi ⊢)
  obtain ⟨n, e, _⟩ := cell_int (hu u (List.mem_of_getElem? hu1)) hu2
  exact ⟨n, e⟩
theorem VRs_ints [Opq] (φ : Phi) (k : IntKind) : ∀ zs : List Int, VRs φ (zs.map (AV.int k)) (zs.map (Value.int k))
  | [] => .nil
  | z :: zs => .cons _ _ _ _ (.int k z) (VRs_ints φ k zs)
end Go.Abs
