/- The abstract machine: a law that answers true, and a row of it; conditions: none but the law's own run. -/
import Derived.Test.YtlidmkmjemoaeaaGreatDoorAbsG2
import Derived.WalkKit
import Derived.ProofKit
import Derived.OpenShut
import Derived.JoinedCond
set_option linter.unusedVariables false
set_option linter.unusedSimpArgs false
set_option linter.unusedSectionVars false
namespace Go.Abs
open Go Go.ChangeShapes Go.WideShapes Go.ChangeAt Go.RowKit

section walk
variable [Opq]
/-- How many slots a function's frame has. -/
def nOf (P : Program) : FuncId → Nat := fun f => ((P.funcs[f]?).map (·.ntmps)).getD 0
theorem nOf_ok (P : Program) : ∀ f fn, P.funcs[f]? = some fn → nOf P f = fn.ntmps := fun f fn h => by simp [nOf, h]

/-- No function with a body bears the name that the machine takes apart. -/
def namesOk (P : Program) : Bool := P.funcs.toList.all fun fn => fn.body.isNone || !(fn.name == "runtime.NumGoroutine")
theorem namesOk_spec {P : Program} (h : namesOk P = true) : ∀ (f : FuncId) (fn : Func), P.funcs[f]? = some fn → fn.body.isSome = true → (fn.name == "runtime.NumGoroutine") = false := fun f fn hf hb => by
  have hm : fn ∈ P.funcs.toList := by
    have := Array.mem_of_getElem? hf
    simpa using this
  have := List.all_eq_true.1 h fn hm
  cases hbd : fn.body with
  | none => rw [hbd] at hb; cases hb
  | some c =>
    rw [hbd] at this
    simpa using this

def isTrue : Option (AV × AHeap) → Bool
  | some (.bool true, _) => true
  | _ => false
theorem isTrue_spec {x : Option (AV × AHeap)} (h : isTrue x = true) : ∃ h', x = some (.bool true, h') := by
  unfold isTrue at h
  split at h
  · exact ⟨_, rfl⟩
  · cases h

/-- no memory -/
noncomputable def h0 : AHeap := ⟨.lf, 0⟩
theorem R.empty (N : FuncId → Nat) (w : World) : R N (fun _ => none) h0 w :=
  ⟨fun _ _ h => (by cases h), fun _ _ _ h => (by cases h), fun _ _ _ _ _ _ h => (by cases h), fun b _ => PT.get_lf b⟩

theorem noneKnown (P : Program) (N : FuncId → Nat) : IOk P N fun _ => none := fun f g h => by cases h

/-- A law whose run on the abstract machine answers true, answers true; and leaves what there was. -/
theorem calls_true {P : Program} (hmix : P.follows .mixedOrders = true) (hname : namesOk P = true) {B : FuncId → Nat} {I : FuncId → Option (List AV → AHeap → Option (AV × AHeap))} (hI : IOk P (nOf P) I) {S n : Nat} {f : FuncId} {as : List AV} {L : Array Value}
    (hrun : isTrue (callsA (mkEnv P) B I S n (.fn f as) h0) = true) (hl : VRs (fun _ => none) as L.toList) (w : World) : Calls P f L w fun e w' => e = .returned (.bool true) ∧ Below w.heap.size w w' := by
  obtain ⟨h', hx⟩ := isTrue_spec hrun
  obtain ⟨_, hc, _⟩ := (callsA_ok (mkEnv_ok P) hmix (nOf_ok P) (namesOk_spec hname) hI (S := S) n).fn (R.empty (nOf P) w) hx hl
  intro cs
  obtain ⟨e, w', fr, ⟨x, φ', rfl, hv, hs⟩, h2⟩ := hc cs
  refine ⟨.returned x, w', fr, ?_, h2⟩
  cases hv
  exact ⟨rfl, hs.os, hs.tape, hs.output, hs.size, fun k hk => hs.wframe k hk fun _ _ _ h => (by cases h)⟩

end walk

section row
variable {H : Type} {enc : TypeId × Value → H} {P : Program} {W W' : World}

/-- types whose readings stay -/
def readOk (P : Program) (ts : List TypeId) : Bool := ts.all fun t => P.readableRec t && decide (t < P.types.size)

theorem trodAll_stays (hl : laidOutB P = true) (hb : Below W.heap.size W W') : ∀ {ts : List TypeId} {vs : List Value} {ds : List (DataW H)} {ps : List MemPlace}, readOk P ts = true → DataW.TrodAll enc P W 0 (fun _ => true) true ts vs ds ps → (∀ x ∈ ps, x.block < W.heap.size) →
    DataW.TrodAll enc P W' 0 (fun b => decide (b < W.heap.size)) true ts vs ds ps
  | [], [], [], ps, _, h, _ => h
  | t :: ts, v :: vs, d :: ds, ps, hr, ⟨p, q, h1, h2, e⟩, hlt => by
    simp only [readOk, List.all_cons, Bool.and_eq_true, decide_eq_true_eq] at hr
    exact ⟨p, q, Below.trod hl hr.1.1 hr.1.2 h1 hb fun x hx => hlt x (by rw [e]; simp [hx]), trodAll_stays hl hb (by simpa [readOk] using hr.2) h2 fun x hx => hlt x (by rw [e]; simp [hx]), e⟩
  | [], [], _ :: _, _, _, h, _ => h.elim
  | [], _ :: _, _, _, _, h, _ => h.elim
  | _ :: _, [], _, _, _, h, _ => h.elim
  | _ :: _, _ :: _, [], _, _, h, _ => h.elim

/-- The row's end: true, and all that came in reads as it did. -/
theorem post_true {f : Func} {s : ChangeSpec} {args : Array Value} {ds gs : List (DataW H)} {before : List MemPlace} {tb : TypeId} (hl : laidOutB P = true) (hW : DataW.Whole enc P f.params.toList s.vars false W args.toList ds gs before)
    (hvars : s.vars = []) (hrt : f.resultTypes = #[tb]) (htb : P.underlying tb = some .bool) (hfn : s.fn H (ds ++ gs) = { results := [.lit (.bool true)], args := ds }) (hp : readOk P f.params.toList = true) (hb : Below W.heap.size W W') :
    s.post enc P f false true false false W args (.bool true) W' := by
  have hlt := hW.lt
  have hW' := hW
  obtain ⟨p, q, hA, hV, rfl, _, _⟩ := hW'
  have hq : q = [] := by
    rw [hvars] at hV
    cases gs with
    | nil => exact hV
    | cons _ _ => exact hV.elim
  subst hq
  refine ⟨ds, gs, p ++ [], [], p, [], hW, ?_, ?_, ?_, hb.frame _, fun h => (by cases h)⟩
  · rw [hfn, hrt]
    exact trodAll_mk1 (shut_bool htb true)
  · rw [hfn]
    exact trodAll_stays hl hb hp hA fun x hx => hlt x (by simp [hx])
  · rw [hvars, hfn]
    exact rfl
end row
end Go.Abs
