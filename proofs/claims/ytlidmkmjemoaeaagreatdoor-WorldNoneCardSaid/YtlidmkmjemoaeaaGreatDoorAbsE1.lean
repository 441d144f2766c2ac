/- The abstract machine: a new block, a block written, a row that has moved: both memories; no conditions. -/
import Derived.Test.YtlidmkmjemoaeaaGreatDoorAbsD
import Derived.Laws.Cells
import Derived.Laws.Entries
set_option linter.unusedVariables false
set_option linter.unusedSimpArgs false
set_option linter.unusedSectionVars false
namespace Go.Abs
variable [Opq]

theorem AHeap.get_put (h : AHeap) (b c : Nat) (o : AObj) : (h.put b o).get c = if c = b then some o else h.get c := PT.get_set _ _ _ _
theorem AHeap.get_kill (h : AHeap) (b c : Nat) : (h.kill b).get c = if c = b then none else h.get c := PT.get_del _ _ _
theorem AHeap.get_new (h : AHeap) (c : Nat) (o : AObj) : (h.new o).get c = if c = h.next then some o else h.get c := PT.get_set _ _ _ _
theorem AHeap.next_put (h : AHeap) (b : Nat) (o : AObj) : (h.put b o).next = h.next := rfl
theorem AHeap.next_kill (h : AHeap) (b : Nat) : (h.kill b).next = h.next := rfl
theorem AHeap.next_new (h : AHeap) (o : AObj) : (h.new o).next = h.next + 1 := rfl

/-- The streams and the tape. -/
def Alike (w w' : World) : Prop := w'.os = w.os ∧ w'.tape = w.tape ∧ w'.output = w.output

/-- A block is written. -/
theorem Sim.upd {N : FuncId → Nat} {φ : Phi} {h h' : AHeap} {w w' : World} {b : Nat} {p : Loc} {o₀ o₁ : AObj} (r : R N φ h w) (hb : φ b = some p) (ho : h.get b = some o₀)
    (hn : h'.next = h.next) (hg : ∀ c, h'.get c = if c = b then some o₁ else h.get c) (hs : w'.heap.size = w.heap.size) (hk : ∀ k, k ≠ p.blk → w'.heap[k]? = w.heap[k]?)
    (ha : Alike w w') (hobj : ObjR N φ w' p o₁) : Sim N φ h w φ h' w' where
  le := fun _ _ e => e
  rel := {
    dom := fun c q e => by rw [hn, hs]; exact r.dom c q e
    obj := fun c q o e ho' => by
      rw [hg] at ho'
      by_cases hc : c = b
      · subst hc
        rw [hb] at e; cases e
        simp at ho'; subst ho'; exact hobj
      · simp [hc] at ho'
        refine (r.obj c q o e ho').of_heap (hk _ fun e2 => hc ?_)
        exact r.inj c b q p o o₀ e hb ho' ho e2
    inj := fun c d q q' o o' e e' ho1 ho2 hq => by
      rw [hg] at ho1 ho2
      have h1 : ∃ x, h.get c = some x := by
        by_cases hc : c = b
        · exact ⟨o₀, hc ▸ ho⟩
        · simp [hc] at ho1; exact ⟨o, ho1⟩
      have h2 : ∃ x, h.get d = some x := by
        by_cases hc : d = b
        · exact ⟨o₀, hc ▸ ho⟩
        · simp [hc] at ho2; exact ⟨o', ho2⟩
      obtain ⟨x, hx⟩ := h1
      obtain ⟨y, hy⟩ := h2
      exact r.inj c d q q' x y e e' hx hy hq
    fresh := fun c hc => by
      rw [hn] at hc
      rw [hg, if_neg]
      · exact r.fresh c hc
      · intro e; subst e; have := (r.dom c p hb).1; omega }
  new := fun _ _ e => .inl e
  dom := fun c q e => (r.dom c q e).1
  live := fun c _ g => by
    rw [hg, if_neg]
    · exact g
    · intro e; subst e; rw [ho] at g; cases g
  next := by rw [hn]; exact Nat.le_refl _
  hframe := fun c hc e => by
    rw [hg, if_neg]
    intro e2; subst e2; rw [hb] at e; cases e
  size := by rw [hs]; exact Nat.le_refl _
  wframe := fun k _ e => hk k fun e2 => e b p o₀ hb ho e2.symm
  os := ha.1
  tape := ha.2.1
  output := ha.2.2

def Phi.put (φ : Phi) (b : Nat) (p : Loc) : Phi := fun c => if c = b then some p else φ c
theorem Phi.put_same (φ : Phi) (b : Nat) (p : Loc) : φ.put b p b = some p := by simp [Phi.put]
theorem Phi.le_put {N : FuncId → Nat} {φ : Phi} {h : AHeap} {w : World} (r : R N φ h w) (p : Loc) : φ.le (φ.put h.next p) := by
  intro c q e
  have := (r.dom c q e).1
  simp only [Phi.put]; rw [if_neg (by omega)]; exact e

/-- A block is new. -/
theorem Sim.alloc {N : FuncId → Nat} {φ : Phi} {h h' : AHeap} {w w' : World} {o : AObj} {room esz : Nat} (r : R N φ h w)
    (hn : h'.next = h.next + 1) (hg : ∀ c, h'.get c = if c = h.next then some o else h.get c) (hs : w'.heap.size = w.heap.size + 1) (hk : ∀ k, k < w.heap.size → w'.heap[k]? = w.heap[k]?)
    (ha : Alike w w') (hobj : ObjR N (φ.put h.next ⟨w.heap.size, 0, room, esz⟩) w' ⟨w.heap.size, 0, room, esz⟩ o) :
    Sim N φ h w (φ.put h.next ⟨w.heap.size, 0, room, esz⟩) h' w' where
  le := Phi.le_put r _
  rel := {
    dom := fun c q e => by
      rw [hn, hs]
      simp only [Phi.put] at e
      split at e
      · rename_i hc; cases e; subst hc; simp
      · have := r.dom c q e; omega
    obj := fun c q x e ho' => by
      rw [hg] at ho'
      by_cases hc : c = h.next
      · subst hc
        rw [Phi.put_same] at e; cases e
        simp at ho'; subst ho'; exact hobj
      · simp [hc] at ho'
        simp only [Phi.put, hc, if_false] at e
        exact ((r.obj c q x e ho').mono (Phi.le_put r _)).of_heap (hk _ (r.dom c q e).2)
    inj := fun c d q q' x x' e e' ho1 ho2 hq => by
      rw [hg] at ho1 ho2
      simp only [Phi.put] at e e'
      by_cases hc : c = h.next
      · by_cases hd : d = h.next
        · rw [hc, hd]
        · simp only [hc, if_true] at e; simp only [hd, if_false] at e'
          cases e
          have := (r.dom d q' e').2
          simp only at hq; omega
      · by_cases hd : d = h.next
        · simp only [hd, if_true] at e'; simp only [hc, if_false] at e
          cases e'
          have := (r.dom c q e).2
          simp only at hq; omega
        · simp only [hc, hd, if_false] at e e' ho1 ho2
          exact r.inj c d q q' x x' e e' ho1 ho2 hq
    fresh := fun c hc => by
      rw [hn] at hc
      rw [hg, if_neg (by omega)]
      exact r.fresh c (by omega) }
  new := fun c q e => by
    simp only [Phi.put] at e
    split at e
    · rename_i hc; cases e; exact .inr ⟨by omega, .inl (Nat.le_refl _)⟩
    · exact .inl e
  dom := fun c q e => (r.dom c q e).1
  live := fun c hc g => by rw [hg, if_neg (by omega)]; exact g
  next := by rw [hn]; omega
  hframe := fun c hc _ => by rw [hg, if_neg (by omega)]
  size := by rw [hs]; omega
  wframe := fun k h1 _ => hk k h1
  os := ha.1
  tape := ha.2.1
  output := ha.2.2

/-- A row is dead, and a new one stands at its place: in the same block, or in a new one. -/
theorem Sim.move {N : FuncId → Nat} {φ : Phi} {h h' : AHeap} {w w' : World} {b : Nat} {p q : Loc} {o₀ o₁ : AObj} (r : R N φ h w) (hb : φ b = some p) (ho : h.get b = some o₀)
    (hn : h'.next = h.next + 1) (hg : ∀ c, h'.get c = if c = h.next then some o₁ else if c = b then none else h.get c)
    (hq : (q.blk = p.blk ∧ w'.heap.size = w.heap.size) ∨ (q.blk = w.heap.size ∧ w'.heap.size = w.heap.size + 1))
    (hk : ∀ k, k < w.heap.size → k ≠ q.blk → w'.heap[k]? = w.heap[k]?)
    (ha : Alike w w') (hobj : ObjR N (φ.put h.next q) w' q o₁) : Sim N φ h w (φ.put h.next q) h' w' where
  le := Phi.le_put r _
  rel := {
    dom := fun c x e => by
      rw [hn]
      simp only [Phi.put] at e
      have hp := (r.dom b p hb).2
      split at e
      · rename_i hc; cases e; subst hc
        rcases hq with ⟨e1, e2⟩ | ⟨e1, e2⟩ <;> omega
      · have := r.dom c x e
        rcases hq with ⟨e1, e2⟩ | ⟨e1, e2⟩ <;> omega
    obj := fun c x y e ho' => by
      rw [hg] at ho'
      by_cases hc : c = h.next
      · subst hc
        rw [Phi.put_same] at e; cases e
        simp at ho'; subst ho'; exact hobj
      · simp only [Phi.put, hc, if_false] at e ho'
        by_cases hcb : c = b
        · simp [hcb] at ho'
        · simp only [hcb, if_false] at ho'
          have hd := r.dom c x e
          refine ((r.obj c x y e ho').mono (Phi.le_put r _)).of_heap (hk _ hd.2 fun e2 => ?_)
          rcases hq with ⟨e1, _⟩ | ⟨e1, _⟩
          · exact hcb (r.inj c b x p y o₀ e hb ho' ho (e2.trans e1))
          · omega
    inj := fun c d x y o o' e e' ho1 ho2 hxy => by
      rw [hg] at ho1 ho2
      simp only [Phi.put] at e e'
      have key : ∀ c x o, c ≠ h.next → φ c = some x → (if c = b then none else h.get c) = some o → x.blk ≠ q.blk := by
        intro c x o hc e ho1 e2
        by_cases hcb : c = b
        · simp [hcb] at ho1
        · simp only [hcb, if_false] at ho1
          rcases hq with ⟨e1, _⟩ | ⟨e1, _⟩
          · exact hcb (r.inj c b x p o o₀ e hb ho1 ho (e2.trans e1))
          · have := (r.dom c x e).2; omega
      by_cases hc : c = h.next
      · by_cases hd : d = h.next
        · rw [hc, hd]
        · simp only [hc, if_true] at e; simp only [hd, if_false] at e' ho2
          cases e
          exact absurd hxy.symm (key d y o' hd e' ho2)
      · by_cases hd : d = h.next
        · simp only [hd, if_true] at e'; simp only [hc, if_false] at e ho1
          cases e'
          exact absurd hxy (key c x o hc e ho1)
        · simp only [hc, hd, if_false] at e e' ho1 ho2
          by_cases hcb : c = b
          · simp [hcb] at ho1
          · by_cases hdb : d = b
            · simp [hdb] at ho2
            · simp only [hcb, hdb, if_false] at ho1 ho2
              exact r.inj c d x y o o' e e' ho1 ho2 hxy
    fresh := fun c hc => by
      rw [hn] at hc
      have := (r.dom b p hb).1
      rw [hg, if_neg (by omega), if_neg (by omega)]
      exact r.fresh c (by omega) }
  new := fun c x e => by
    simp only [Phi.put] at e
    split at e
    · rename_i hc; cases e
      refine .inr ⟨by omega, ?_⟩
      rcases hq with ⟨e1, _⟩ | ⟨e1, _⟩
      · exact .inr ⟨b, p, o₀, hb, ho, e1.symm⟩
      · exact .inl (by omega)
    · exact .inl e
  dom := fun c q e => (r.dom c q e).1
  live := fun c hc g => by
    rw [hg, if_neg (by omega)]
    split
    · rfl
    · exact g
  next := by rw [hn]; omega
  hframe := fun c hc e => by
    rw [hg, if_neg (by omega), if_neg]
    intro e2; subst e2; rw [hb] at e; cases e
  size := by rcases hq with ⟨_, e2⟩ | ⟨_, e2⟩ <;> omega
  wframe := fun k h1 e => hk k h1 fun e2 => by
    rcases hq with ⟨e1, _⟩ | ⟨e1, _⟩
    · exact e b p o₀ hb ho (e1.symm.trans e2.symm)
    · omega
  os := ha.1
  tape := ha.2.1
  output := ha.2.2

theorem World.heap_push_old (w : World) (o : Obj) (k : Nat) (h : k < w.heap.size) : (w.heap.push o)[k]? = w.heap[k]? := by
  rw [Array.getElem?_push, if_neg (by omega)]

/-- A new row of cells. -/
theorem Sim.row {N : FuncId → Nat} {φ : Phi} {h : AHeap} {w : World} (r : R N φ h w) (e : TypeId) (esz : Nat) (l : List AV) (c : Array Value) (hl : VRs φ l c.toList) (hf : allFlat l = true) :
    Sim N φ h w (φ.put h.next ⟨w.heap.size, 0, l.length, esz⟩) (h.row e l false esz) { w with heap := w.heap.push (.cells c e) } := by
  have hlen : c.size = l.length := by have := hl.length; simp at this; omega
  refine Sim.alloc (room := l.length) (esz := esz) r rfl (fun d => AHeap.get_new _ _ _) (by simp) (fun k hk => World.heap_push_old w _ k hk) ⟨rfl, rfl, rfl⟩ ?_
  refine ⟨rfl, c, (0, 0), by simp, by simp [hlen], Nat.le_refl _, fun i _ _ h => by simp at h, fun _ => rfl, ?_⟩
  intro i v hv
  rw [PT.get_ofList] at hv
  split at hv
  · rename_i hi
    simp only [Nat.sub_zero] at hv
    obtain ⟨x, hx, hr⟩ := hl.get i v hv
    have hfl : ∀ (l : List AV), allFlat l = true → ∀ (i : Nat) (v : AV), l[i]? = some v → v.flat = true := by
      intro l
      induction l with
      | nil => intro _ i v h; simp at h
      | cons a l ih =>
        intro hh i v h
        simp only [allFlat] at hh
        split at hh
        · rename_i ha
          cases i with
          | zero => simp at h; subst h; exact ha
          | succ i => exact ih hh i v (by simpa using h)
        · cases hh
    exact ⟨by omega, hfl l hf i v hv, x, by simpa using hx, hr.mono (Phi.le_put r _)⟩
  · simp [PT.get_lf] at hv

end Go.Abs
