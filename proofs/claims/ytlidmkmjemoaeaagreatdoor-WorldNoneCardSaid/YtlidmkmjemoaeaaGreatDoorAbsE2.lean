/- The abstract machine: types, operands, loads and stores, both machines; no conditions. -/
import Derived.Test.YtlidmkmjemoaeaaGreatDoorAbsE1
import Derived.Laws.IdiomCopy
import Derived.ChangeKeysEq
set_option linter.unusedVariables false
set_option linter.unusedSimpArgs false
set_option linter.unusedSectionVars false
namespace Go.Abs
variable [Opq]
open Go

/-! ### types -/
structure EnvOk (P : Program) (E : Env) : Prop where
  info : ∀ t i, E.ti.get t = some i → ∃ x, P.info? t = some x ∧ P.underlying t = some i.desc ∧ x.size = i.size ∧ x.bytes = i.bytes ∧ i.agg = descAgg i.desc ∧ i.zero = zeroOf i.agg x.zero
  fn : ∀ f x, E.fn.get f = some x → P.funcs[f]? = some x
  sh : ∀ t, E.sh t = P.stoodInHeld t
  gt : ∀ t, E.gt t = P.eqGuardType P.depth t
  ex : ∀ f k, E.ex.get f = some k → ∃ fn, P.funcs[f]? = some fn ∧ fn.body = none ∧ fn.origin = "" ∧ extNamed fn.name = some k

theorem mkTis_get (P : Program) (k : Nat) (y : TInf) : ∀ (l : List TypeInfo) (t : PT TInf) (i : Nat), (mkTis P t i l).get k = some y →
    (∃ j x, k = i + j ∧ l[j]? = some x ∧ mkTInf P x = some y) ∨ t.get k = some y
  | [], t, i, h => .inr h
  | x :: l, t, i, h => by
    simp only [mkTis] at h
    cases hx : mkTInf P x with
    | none =>
      simp only [hx] at h
      rcases mkTis_get P k y l t (i + 1) h with ⟨j, z, hk, hz, e⟩ | h
      · exact .inl ⟨j + 1, z, by omega, by simpa using hz, e⟩
      · exact .inr h
    | some u =>
      simp only [hx] at h
      rcases mkTis_get P k y l (t.set i u) (i + 1) h with ⟨j, z, hk, hz, e⟩ | h
      · exact .inl ⟨j + 1, z, by omega, by simpa using hz, e⟩
      · rw [PT.get_set] at h
        split at h
        · rename_i e
          cases h
          exact .inl ⟨0, x, by omega, by simp, hx⟩
        · exact .inr h

theorem mkExts_get (k : Nat) (y : Ext) : ∀ (l : List Func) (t : PT Ext) (i : Nat), (mkExts t i l).get k = some y →
    (∃ j x, k = i + j ∧ l[j]? = some x ∧ extOf x = some y) ∨ t.get k = some y
  | [], t, i, h => .inr h
  | x :: l, t, i, h => by
    simp only [mkExts] at h
    cases hx : extOf x with
    | none =>
      simp only [hx] at h
      rcases mkExts_get k y l t (i + 1) h with ⟨j, z, hk, hz, e⟩ | h
      · exact .inl ⟨j + 1, z, by omega, by simpa using hz, e⟩
      · exact .inr h
    | some u =>
      simp only [hx] at h
      rcases mkExts_get k y l (t.set i u) (i + 1) h with ⟨j, z, hk, hz, e⟩ | h
      · exact .inl ⟨j + 1, z, by omega, by simpa using hz, e⟩
      · rw [PT.get_set] at h
        split at h
        · rename_i e
          cases h
          exact .inl ⟨0, x, by omega, by simp, hx⟩
        · exact .inr h

theorem mkEnv_ok (P : Program) : EnvOk P (mkEnv P) where
  info := fun t i h => by
    rcases mkTis_get P t i P.types.toList .lf 0 h with ⟨j, x, hk, hx, e⟩ | h
    · obtain rfl : t = j := by omega
      have hlt : t < P.types.size := by
        rcases Nat.lt_or_ge t P.types.toList.length with h | h
        · simpa using h
        · rw [List.getElem?_eq_none h] at hx; cases hx
      have hinfo : P.info? t = some x := by
        show Tables.info? P.toTables t = some x
        unfold Tables.info?
        rw [if_pos hlt]
        simpa using hx
      refine ⟨x, hinfo, ?_⟩
      unfold mkTInf at e
      split at e
      · rename_i d hd
        cases e
        refine ⟨?_, rfl, rfl, rfl, rfl⟩
        unfold Program.underlying
        rw [hinfo]
        cases hdesc : x.desc with
        | named n u =>
          rw [hdesc] at hd
          cases x; simp only at hdesc; subst hdesc
          simpa using hd
        | _ =>
          rw [hdesc] at hd
          cases x; simp only at hdesc; subst hdesc
          simpa using hd
      · cases e
    · simp [PT.get_lf] at h
  fn := fun f x h => by
    have h' : (PT.ofList .lf 0 P.funcs.toList).get f = some x := h
    rw [PT.get_ofList] at h'
    split at h'
    · simpa using h'
    · simp [PT.get_lf] at h'
  sh := fun _ => rfl
  gt := fun _ => rfl
  ex := fun f k h => by
    rcases mkExts_get f k P.funcs.toList .lf 0 h with ⟨j, x, hk, hx, e⟩ | h
    · obtain rfl : f = j := by omega
      unfold extOf at e
      split at e
      · cases e
      · rename_i hb
        split at e
        · rename_i ho
          exact ⟨x, by simpa using hx, hb, ho, e⟩
        · cases e
    · simp [PT.get_lf] at h

section types
variable {P : Program} {E : Env} (EO : EnvOk P E) {t : TypeId} {i : TInf} (hi : E.ti.get t = some i) (w : World)
include EO hi
theorem EnvOk.under : (underlying t).run P w = .ok i.desc w := by
  obtain ⟨x, _, h, _⟩ := EO.info t i hi
  exact run_underlying h w
theorem EnvOk.type : ∃ x, (typeInfo t).run P w = .ok x w ∧ x.bytes = i.bytes := by
  obtain ⟨x, h, _, _, h2, _⟩ := EO.info t i hi
  exact ⟨x, run_typeInfo w h, h2⟩
theorem EnvOk.size : (sizeOf t).run P w = .ok i.size w := by
  obtain ⟨x, h, _, h2, _⟩ := EO.info t i hi
  simp only [sizeOf, Sem.run_bind, run_typeInfo w h, Result.andThen_ok, Sem.run_pure, h2]
theorem EnvOk.isAgg : (isAgg t).run P w = .ok i.agg w := by
  obtain ⟨x, _, _, _, _, h, _⟩ := EO.info t i hi
  rw [h]
  simp only [Go.isAgg, Sem.run_bind, EO.under hi w, Result.andThen_ok]
  cases i.desc <;> rfl
theorem EnvOk.zero {z : List AV} (hz : i.zero = some z) : ∃ v, (zeroValue t).run P w = .ok v w ∧ zeroOf i.agg (some v) = some z := by
  obtain ⟨x, h, _, _, _, _, h2⟩ := EO.info t i hi
  cases hx : x.zero with
  | none => rw [hz, hx] at h2; simp [zeroOf] at h2
  | some v =>
    refine ⟨v, ?_, by rw [← hz, h2, hx]⟩
    simp only [zeroValue, Sem.run_bind, run_typeInfo w h, Result.andThen_ok, hx, Sem.run_pure]
end types

/-! ### constants -/
theorem ofConst_VR {φ : Phi} {v : Value} {a : AV} (h : AV.ofConst v = some a) : VR φ a v := by
  unfold AV.ofConst at h
  split at h <;> first
    | (cases h; first | exact .int _ _ | exact .bool _ | exact .str _ _ rfl | exact .nilPtr | exact .nilSlice | exact .nilMap | exact .nilFunc | exact .nilIface)
    | cases h

theorem ofConst_flat {v : Value} {a : AV} (h : AV.ofConst v = some a) : a.flat = true := by
  unfold AV.ofConst at h
  split at h <;> first | (cases h; rfl) | cases h

theorem ofCells_VRs {φ : Phi} : ∀ {l : List Value} {as : List AV}, AV.ofCells l = some as → VRs φ as l ∧ allFlat as = true
  | [], as, h => by cases h; exact ⟨.nil, rfl⟩
  | v :: l, as, h => by
    simp only [AV.ofCells] at h
    split at h
    · rename_i a as' ha has
      cases h
      have := ofCells_VRs (φ := φ) has
      exact ⟨.cons _ _ _ _ (ofConst_VR ha) this.1, by simp [allFlat, ofConst_flat ha, this.2]⟩
    · cases h

/-- A zero: its cells; as a value. -/
theorem zeroOf_VR {φ : Phi} {agg : Bool} {v : Value} {z : List AV} (h : zeroOf agg (some v) = some z) :
    VRs φ z v.cells.toList ∧ allFlat z = true ∧ (agg = true → VR φ (.agg z) v) ∧ (agg = false → ∃ a, z = [a] ∧ VR φ a v) := by
  cases v with
  | agg cs =>
    simp only [zeroOf] at h
    split at h
    · have := ofCells_VRs (φ := φ) h
      exact ⟨by simpa [Value.cells] using this.1, this.2, fun _ => .agg _ _ this.1, fun e => by cases e⟩
    · cases h
  | _ =>
    simp only [zeroOf] at h
    split at h
    · rename_i a ha
      cases h
      exact ⟨.cons _ _ _ _ (ofConst_VR ha) .nil, by simp [allFlat, ofConst_flat ha], (fun e => by cases e), fun _ => ⟨a, rfl, ofConst_VR ha⟩⟩
    · cases h

/-! ### operands -/
section opnd
variable {φ : Phi} {nt : Nat} {fr : Fr} {a : Act}
theorem opnd_VR (hf : FrR φ nt fr a.tmps) : ∀ {x : Operand} {v : AV}, opnd fr x = some v → VR φ v (a.eval x)
  | .tmp t, v, h => hf.2 t v h
  | .const c, v, h => ofConst_VR h
  | .func f, v, h => by cases h; exact .func _ _ _ _ _ _ (.same _ (by simp)) .nil .nil
  | .global g, v, h => by cases h
theorem opnds_VRs (hf : FrR φ nt fr a.tmps) : ∀ {l : List Operand} {vs : List AV}, opnds fr l = some vs → VRs φ vs (l.map a.eval)
  | [], vs, h => by cases h; exact .nil
  | x :: l, vs, h => by
    simp only [opnds] at h
    split at h
    · split at h
      · cases h; exact .cons _ _ _ _ (opnd_VR hf (by assumption)) (opnds_VRs hf (by assumption))
      · cases h
    · cases h
theorem optA_VR (hf : FrR φ nt fr a.tmps) {x : Option Operand} {v : Option AV} (h : optA fr x = some v) :
    (v = none ∧ x.map a.eval = none) ∨ ∃ u y, v = some u ∧ x.map a.eval = some y ∧ VR φ u y := by
  cases x with
  | none => simp only [optA] at h; cases h; exact .inl ⟨rfl, rfl⟩
  | some x =>
    simp only [optA] at h
    split at h
    · cases h; exact .inr ⟨_, _, rfl, rfl, opnd_VR hf (by assumption)⟩
    · cases h
inductive PsR (φ : Phi) : List (Nat × AV) → List (Nat × Value) → Prop where
  | nil : PsR φ [] []
  | cons (i : Nat) (v : AV) (x : Value) (l : List (Nat × AV)) (m : List (Nat × Value)) (h : VR φ v x) (hl : PsR φ l m) : PsR φ ((i, v) :: l) ((i, x) :: m)
theorem partsA_PsR (hf : FrR φ nt fr a.tmps) : ∀ {l : List (Nat × Operand)} {vs : List (Nat × AV)}, partsA fr l = some vs → PsR φ vs (l.map fun (i, x) => (i, a.eval x))
  | [], vs, h => by cases h; exact .nil
  | (i, x) :: l, vs, h => by
    simp only [partsA] at h
    split at h
    · split at h
      · cases h; exact .cons _ _ _ _ _ (opnd_VR hf (by assumption)) (partsA_PsR hf (by assumption))
      · cases h
    · cases h
end opnd

theorem VR.cells {φ : Phi} {v : AV} {x : Value} (h : VR φ v x) : VRs φ v.cells x.cells.toList := by
  cases h <;> first
    | (rename_i hl; exact hl)
    | (rw [Opq.one]; exact .cons _ _ _ _ (.opq _) .nil)
    | (refine .cons _ _ _ _ ?_ .nil; constructor <;> assumption)

theorem VR.oneCell {φ : Phi} {v : AV} {x : Value} (h : VR φ v x) (hf : v.flat = true) : x.oneCell' = true := by
  cases h <;> first | rfl | exact Opq.cell _ | cases hf

theorem VRs.oneCells {φ : Phi} : ∀ {l : List AV} {m : List Value}, VRs φ l m → allFlat l = true → ∀ x ∈ m, x.oneCell' = true
  | _, _, .nil, _, x, hx => by simp at hx
  | _, _, .cons v y l m h hl, hf, x, hx => by
    simp only [allFlat] at hf
    split at hf
    · rename_i hv
      rcases List.mem_cons.1 hx with e | e
      · subst e; exact h.oneCell hv
      · exact hl.oneCells hf x e
    · cases hf

/-! ### loads -/
section mem
variable {P : Program} {E : Env} {N : FuncId → Nat} {φ : Phi} {h : AHeap} {w : World}

theorem getCells_spec : ∀ (n : Nat) (t : PT AV) (o : Nat) (l : List AV), getCells t o n = some l → l.length = n ∧ ∀ j v, l[j]? = some v → t.get (o + j) = some v
  | 0, t, o, l, h => by cases h; exact ⟨rfl, fun j v e => by simp at e⟩
  | n + 1, t, o, l, h => by
    simp only [getCells] at h
    split at h
    · split at h
      · rename_i v hv l' hl'
        cases h
        have := getCells_spec n t (o + 1) l' hl'
        refine ⟨by simp [this.1], fun j u e => ?_⟩
        cases j with
        | zero => simp at e; subst e; assumption
        | succ j => have := this.2 j u (by simpa using e); rwa [show o + (j + 1) = o + 1 + j by omega]
      · cases h
    · cases h

theorem load_cells (r : R N φ h w) {b o n : Nat} {l : List AV} {p : Loc} (hb : φ b = some p) (hl : h.load b o n = some l) :
    ∃ m, VRs φ l m ∧ m.length = n ∧ ∀ j x, m[j]? = some x → w.cell? ⟨p.blk, p.base + o + j, none⟩ = some x := by
  unfold AHeap.load at hl
  split at hl
  · rename_i t n' e st ez ho
    obtain ⟨hlen, hg⟩ := getCells_spec n t o l hl
    obtain ⟨_, c, fz, hc, _, _, _, _, hcell⟩ := r.obj b p _ hb ho
    have key : ∀ (l : List AV) (o : Nat), (∀ j v, l[j]? = some v → t.get (o + j) = some v) → ∃ m, VRs φ l m ∧ m.length = l.length ∧ ∀ j x, m[j]? = some x → c[p.base + o + j]? = some x := by
      intro l
      induction l with
      | nil => intro o _; exact ⟨[], .nil, rfl, fun j x e => by simp at e⟩
      | cons v l ih =>
        intro o hg
        obtain ⟨m, hm, hlm, hcm⟩ := ih (o + 1) (fun j u e => by have := hg (j + 1) u (by simpa using e); rwa [show o + 1 + j = o + (j + 1) by omega])
        obtain ⟨_, _, x, hx, hr⟩ := hcell (o + 0) v (hg 0 v (by simp))
        refine ⟨x :: m, .cons _ _ _ _ hr hm, by simp [hlm], fun j y e => ?_⟩
        cases j with
        | zero => simp at e; subst e; simpa [Nat.add_assoc] using hx
        | succ j => have := hcm j y (by simpa using e); rwa [show p.base + o + (j + 1) = p.base + (o + 1) + j by omega]
    obtain ⟨m, hm, hlm, hcm⟩ := key l o hg
    refine ⟨m, hm, by omega, fun j x e => ?_⟩
    simp only [World.cell?, hc]
    simpa using hcm j x e
  · cases hl

theorem run_loadCells_at (P : Program) (w : World) (g o n : Nat) (m : List Value) (hn : m.length = n) (h : ∀ j x, m[j]? = some x → w.cell? ⟨g, o + j, none⟩ = some x) :
    (loadCells ⟨g, o, none⟩ n).run P w = .ok m.toArray w := by
  subst hn
  exact run_loadCells_list w _ m fun j x e => by rw [Addr.add_lit]; exact h j x e

theorem run_loadVar_at (EO : EnvOk P E) {t : TypeId} {i : TInf} (hi : E.ti.get t = some i) (r : R N φ h w) {b o : Nat} {v : AV} {p : Loc} (hb : φ b = some p) (hl : loadT i h b o = some v) :
    ∃ x, (loadVar t ⟨p.blk, p.base + o, none⟩).run P w = .ok x w ∧ VR φ v x := by
  unfold loadT at hl
  simp only [loadVar, Sem.run_bind, EO.isAgg hi w, Result.andThen_ok]
  split at hl
  · rename_i hagg
    rw [hagg]
    split at hl
    · rename_i l hl'
      cases hl
      obtain ⟨m, hm, hn, hc⟩ := load_cells r hb hl'
      refine ⟨.agg m.toArray, ?_, .agg _ _ (by simpa using hm)⟩
      simp [EO.size hi w, run_loadCells_at P w _ _ _ m hn hc]
    · cases hl
  · rename_i hagg
    rw [hagg]
    split at hl
    · rename_i u l hl'
      cases hl
      obtain ⟨m, hm, hn, hc⟩ := load_cells r hb hl'
      cases hm with
      | cons _ x _ m' hx hr =>
        refine ⟨x, ?_, hx⟩
        have := hc 0 x (by simp)
        simp only [Nat.add_zero] at this
        simp [run_load, this]
    · cases hl

/-! ### stores -/
theorem setCells_spec (n : Nat) : ∀ (l : List AV) (t t' : PT AV) (o : Nat), setCells n t o l = some t' → allFlat l = true ∧ (l ≠ [] → o + l.length ≤ n) ∧ ∀ i, t'.get i = if o ≤ i ∧ i < o + l.length then l[i - o]? else t.get i
  | [], t, t', o, h => by cases h; exact ⟨rfl, fun h => absurd rfl h, fun i => by rw [if_neg (by intro ⟨a, b⟩; simp at b; omega)]⟩
  | v :: l, t, t', o, h => by
    simp only [setCells] at h
    split at h
    · rename_i h1 h2
      have hle : o + 1 ≤ n := by simpa using h1
      obtain ⟨ha, hb, hc⟩ := setCells_spec n l (t.set o v) t' (o + 1) h
      refine ⟨by simp [allFlat, h2, ha], fun _ => ?_, fun i => ?_⟩
      · by_cases e : l = []
        · subst e; simpa using hle
        · have := hb e; simp; omega
      · rw [hc, PT.get_set]
        by_cases e : i = o
        · subst e
          rw [if_neg (by omega), if_pos rfl, if_pos (by simp)]; simp
        · by_cases e2 : o + 1 ≤ i ∧ i < o + 1 + l.length
          · rw [if_pos e2, if_pos (by simp; omega)]
            rw [show i - o = (i - (o + 1)) + 1 by omega]; simp
          · rw [if_neg e2, if_neg e, if_neg (by simp; omega)]
    · cases h

theorem heap_setCell_other (w : World) (a : Addr) (u : Value) (k : Nat) (hk : k ≠ a.block) : (w.setCell a u).heap[k]? = w.heap[k]? := by
  simp only [World.setCell, Array.getElem?_modify]
  rw [if_neg (by omega)]

theorem heap_setCells_other (b : Nat) : ∀ (vs : List Value) (o : Nat) (w : World) (k : Nat), k ≠ b → (w.setCells b o vs).heap[k]? = w.heap[k]?
  | [], _, _, _, _ => rfl
  | v :: r, o, w, k, hk => by rw [World.setCells, heap_setCells_other b r _ _ k hk, heap_setCell_other _ _ _ _ hk]
theorem size_setCells (b : Nat) : ∀ (vs : List Value) (o : Nat) (w : World), (w.setCells b o vs).heap.size = w.heap.size
  | [], _, _ => rfl
  | v :: r, o, w => by rw [World.setCells, size_setCells b r]; simp [World.setCell]
theorem alike_setCells (b : Nat) : ∀ (vs : List Value) (o : Nat) (w : World), Alike w (w.setCells b o vs)
  | [], _, _ => ⟨rfl, rfl, rfl⟩
  | v :: r, o, w => alike_setCells b r (o + 1) (w.setCell ⟨b, o, none⟩ v)

/-- The cells of a block, behind a row of stores. -/
theorem heap_setCells (b : Nat) (e : TypeId) (fz : Nat × Nat) : ∀ (vs : List Value) (o : Nat) (w : World) (c : Array Value), w.heap[b]? = some (.cells c e fz) → o + vs.length ≤ c.size →
    ∃ c', (w.setCells b o vs).heap[b]? = some (.cells c' e fz) ∧ c'.size = c.size ∧ ∀ i, c'[i]? = if o ≤ i ∧ i < o + vs.length then vs[i - o]? else c[i]?
  | [], o, w, c, hc, _ => ⟨c, hc, rfl, fun i => by rw [if_neg (by intro ⟨a, b⟩; simp at b; omega)]⟩
  | v :: r, o, w, c, hc, hle => by
    simp at hle
    have h1 : (w.setCell ⟨b, o, none⟩ v).heap[b]? = some (.cells (c.setIfInBounds o v) e fz) := by
      simp only [World.setCell, Array.getElem?_modify, if_true, hc]
      simp
    obtain ⟨c', hc', hs, hg⟩ := heap_setCells b e fz r (o + 1) _ _ h1 (by simp; omega)
    refine ⟨c', hc', by simpa using hs, fun i => ?_⟩
    rw [hg, Array.getElem?_setIfInBounds]
    by_cases e1 : o = i
    · subst e1
      rw [if_neg (by omega), if_pos rfl, if_pos (by omega), if_pos (by simp)]; simp
    · by_cases e2 : o + 1 ≤ i ∧ i < o + 1 + r.length
      · rw [if_pos e2, if_pos (by simp; omega), show i - o = (i - (o + 1)) + 1 by omega]; simp
      · rw [if_neg e2, if_neg e1, if_neg (by simp; omega)]

theorem store_sim (r : R N φ h w) {b o : Nat} {l : List AV} {m : List Value} {p : Loc} {h' : AHeap} (hb : φ b = some p) (hs : h.store b o l = some h') (hl : VRs φ l m) :
    ∃ w', (storeCells ⟨p.blk, p.base + o, none⟩ m).run P w = .ok () w' ∧ Sim N φ h w φ h' w' := by
  unfold AHeap.store at hs
  split at hs
  · rename_i t n e st ez ho
    split at hs
    · rename_i t' ht'
      cases hs
      obtain ⟨hflat, hle, hget⟩ := setCells_spec n l t t' o ht'
      have hlen := hl.length
      obtain ⟨hez, c, fz, hc, hroom, hn, hfz, hst, hcell⟩ := r.obj b p _ hb ho
      have hin : ∀ j, j < m.length → o + j < n := fun j hj => by
        have : l ≠ [] := by intro e; subst e; simp at hlen; omega
        have := hle this; omega
      have hcell? : ∀ j, j < m.length → (w.cell? ⟨p.blk, p.base + o + 0 + j, none⟩).isSome = true := fun j hj => by
        have := hin j hj
        simp only [World.cell?, hc]
        simp; omega
      have hfr : ∀ j, j < m.length → w.frozen? ⟨p.blk, p.base + o + 0 + j, none⟩ = false := fun j hj => by
        have h1 := hin j hj
        have h2 := hfz (p.base + o + 0 + j) (by omega) (by omega)
        obtain ⟨lo, hi⟩ := fz
        simp only [World.frozen?, hc]
        simp at h2 ⊢
        omega
      refine ⟨w.setCells p.blk (p.base + o) m, ?_, ?_⟩
      · have := run_storeCells_cells (P := P) p.blk (p.base + o) m 0 w hcell? hfr (hl.oneCells hflat)
        simpa using this
      · have hsz : p.base + o + m.length ≤ c.size ∨ m = [] := by
          cases m with
          | nil => exact .inr rfl
          | cons x m => have := hin m.length (by simp); left; simp; omega
        obtain ⟨c', hc', hs', hg'⟩ : ∃ c', (w.setCells p.blk (p.base + o) m).heap[p.blk]? = some (.cells c' e fz) ∧ c'.size = c.size ∧ ∀ i, c'[i]? = if p.base + o ≤ i ∧ i < p.base + o + m.length then m[i - (p.base + o)]? else c[i]? := by
          rcases hsz with hsz | rfl
          · exact heap_setCells p.blk e fz m (p.base + o) w c hc hsz
          · exact ⟨c, hc, rfl, fun i => by rw [if_neg (by intro ⟨a, b⟩; simp at b; omega)]⟩
        refine Sim.upd (o₁ := .cells t' n e st ez) r hb ho rfl (fun d => AHeap.get_put _ _ _ _) (size_setCells _ _ _ _) (fun k hk => heap_setCells_other _ _ _ _ k hk) (alike_setCells _ _ _ _) ?_
        refine ⟨hez, c', fz, hc', by omega, hn, hfz, hst, fun i v hv => ?_⟩
        rw [hget] at hv
        rw [hg']
        by_cases hi : o ≤ i ∧ i < o + l.length
        · rw [if_pos hi] at hv
          obtain ⟨x, hx, hr⟩ := hl.get _ _ hv
          have hlt : i - o < m.length := by omega
          have hfl : ∀ (l : List AV), allFlat l = true → ∀ (i : Nat) (v : AV), l[i]? = some v → v.flat = true := by
            intro l
            induction l with
            | nil => intro _ i v h; simp at h
            | cons a l ih =>
              intro hh i v h
              simp only [allFlat] at hh
              split at hh
              · rename_i ha
                cases i with
                | zero => simp at h; subst h; exact ha
                | succ i => exact ih hh i v (by simpa using h)
              · cases hh
          refine ⟨by have := hin _ hlt; omega, hfl l hflat _ _ hv, x, ?_, hr⟩
          rw [if_pos (by omega), show p.base + i - (p.base + o) = i - o by omega]; exact hx
        · rw [if_neg hi] at hv
          obtain ⟨h1, h2, x, hx, hr⟩ := hcell i v hv
          exact ⟨h1, h2, x, by rw [if_neg (by omega)]; exact hx, hr⟩
    · cases hs
  · cases hs

theorem run_storeVar_at (EO : EnvOk P E) {t : TypeId} (r : R N φ h w) {a v : AV} {y x : Value} {h' : AHeap} (ha : VR φ a y) (hv : VR φ v x) (hs : storeA E h t a v = some h') :
    ∃ w', (Instr.storeAt t y x).run P w = .ok () w' ∧ Sim N φ h w φ h' w' := by
  unfold storeA at hs
  split at hs
  · rename_i b o
    cases ha with
    | ptr _ _ p hb =>
      split at hs
      · rename_i s hsz
        split at hs
        · rename_i hlen
          obtain ⟨w', hrun, hsim⟩ := store_sim (P := P) r hb hs hv.cells
          refine ⟨w', ?_, hsim⟩
          unfold sizeA at hsz
          split at hsz
          · rename_i i hi
            cases hsz
            have hl : x.cells.size = i.size := by
              have h1 := hv.cells.length
              have h2 : v.cells.length = i.size := by simpa using hlen
              simp at h1; omega
            simp [Instr.storeAt, Instr.sureAddr, storeVar, EO.size hi, hl, hrun]
          · cases hsz
        · cases hs
      · cases hs
  · cases hs
end mem

end Go.Abs
