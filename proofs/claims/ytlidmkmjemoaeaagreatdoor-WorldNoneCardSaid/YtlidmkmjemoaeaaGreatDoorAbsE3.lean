/- The abstract machine: operations that make values, rows and structs, both machines; no conditions. -/
import Derived.Test.YtlidmkmjemoaeaaGreatDoorAbsE2
set_option linter.unusedVariables false
set_option linter.unusedSimpArgs false
set_option linter.unusedSectionVars false
namespace Go.Abs
variable [Opq]
open Go

/-- What an operation of the machine does, where the abstract one does r. -/
def OpOk (P : Program) (N : FuncId → Nat) (φ : Phi) (h : AHeap) (w : World) (s : Sem Next) : OpR → Prop
  | .val v => ∃ x, s.run P w = .ok (.value x) w ∧ VR φ v x
  | .mem v h' => ∃ x nx φ' w', s.run P w = .ok nx w' ∧ (nx = .value x ∨ (nx = .skip ∧ x = undef)) ∧ VR φ' v x ∧ Sim N φ h w φ' h' w'
  | .call f l => ∃ L, s.run P w = (callFunc f L).run P w ∧ VRs φ l L.toList
  | .yield l as => ∃ p L, φ l = some p ∧ s.run P w = (Instr.yield p.blk L).run P w ∧ VRs φ as L.toList
  | .dfr d => ∃ D, s.run P w = .ok (.defer D) w ∧ DR φ d D

/-- a value of a value -/
def vSem (s : Sem Value) : Sem Next := do pure (.value (← s))
def uSem (s : Sem Unit) : Sem Next := do s; pure .skip

section
variable {P : Program} {E : Env} {N : FuncId → Nat} {φ : Phi} {h : AHeap} {w : World} {s : Sem Value}

theorem OpOk.pure {x : Value} {v : AV} (hr : s.run P w = .ok x w) (hv : VR φ v x) : OpOk P N φ h w (vSem s) (.val v) := by
  refine ⟨x, ?_, hv⟩
  simp [vSem, hr]
theorem OpOk.made {x : Value} {v : AV} {φ' : Phi} {h' : AHeap} {w' : World} (hr : s.run P w = .ok x w') (hv : VR φ' v x) (hs : Sim N φ h w φ' h' w') : OpOk P N φ h w (vSem s) (.mem v h') := by
  refine ⟨x, .value x, φ', w', ?_, .inl rfl, hv, hs⟩
  simp [vSem, hr]
theorem OpOk.unit {s : Sem Unit} {φ' : Phi} {h' : AHeap} {w' : World} (hr : s.run P w = .ok () w') (hs : Sim N φ h w φ' h' w') : OpOk P N φ h w (uSem s) (.mem (.tuple []) h') := by
  refine ⟨undef, .skip, φ', w', ?_, .inr ⟨rfl, rfl⟩, .tuple _ _ .nil, hs⟩
  simp [uSem, hr]

/-! ### small results -/
theorem vInt_inv {k : IntKind} {n : Int} {r : OpR} (h : vInt k n = some r) : r = .val (.int k n) := by
  rw [vInt, fInt_eq] at h; cases h; rfl
theorem vBool_inv {b : Bool} {r : OpR} (h : vBool b = some r) : r = .val (.bool b) := by
  cases b <;> cases h <;> rfl
theorem vStr_inv {s : List UInt8} {r : OpR} (h : vStr s = some r) : r = .val (.str s) := by
  rw [vStr, fList_eq] at h; cases h; rfl

/-! ### new rows -/
theorem alloc_ok (EO : EnvOk P E) (r : R N φ h w) {t : TypeId} {x : OpR} (hx : allocA E h t = some x) : OpOk P N φ h w (vSem (Instr.alloc t true (.tuple #[]))) x := by
  unfold allocA at hx
  split at hx
  · rename_i i hi
    split at hx
    · rename_i z hz
      cases hx
      obtain ⟨v, hv, hzv⟩ := EO.zero hi w hz
      obtain ⟨hc, hfl, _⟩ := zeroOf_VR (φ := φ) hzv
      have hs := Sim.row r t 0 z v.cells hc hfl
      refine OpOk.made (x := .pointer (some ⟨w.heap.size, 0, none⟩)) ?_ (.ptr _ _ _ (Phi.put_same _ _ _)) hs
      simp [Instr.alloc, hv, newVar, newRow]
    · cases hx
  · cases hx

theorem box_ok (r : R N φ h w) {t : TypeId} {v : AV} {y : Value} {x : OpR} (hv : VR φ v y) (hx : boxA h t v = some x) : OpOk P N φ h w (vSem (Instr.box t y)) x := by
  unfold boxA at hx
  split at hx
  · rename_i hfl
    cases hx
    have hs := Sim.row r t 0 v.cells y.cells hv.cells hfl
    refine OpOk.made (x := .pointer (some ⟨w.heap.size, 0, none⟩)) ?_ (.ptr _ _ _ (Phi.put_same _ _ _)) hs
    simp [Instr.box, newVar, newRow]
  · cases hx

/-! ### cells over cells -/
theorem over0Spec : ∀ (cs l r : List AV), overlay.over0 cs l = some r → r.length = cs.length ∧ l.length ≤ cs.length ∧ ∀ i, r[i]? = if i < l.length then l[i]? else cs[i]?
  | cs, [], r, h => by
    have : r = cs := by cases cs <;> (simp only [overlay.over0] at h; cases h; rfl)
    subst this; exact ⟨rfl, by simp, fun i => by simp⟩
  | [], v :: l, r, h => by simp [overlay.over0] at h
  | c :: cs, v :: l, r, h => by
    simp only [overlay.over0] at h
    split at h
    · rename_i r' hr'
      cases h
      obtain ⟨a, b, c'⟩ := over0Spec cs l r' hr'
      refine ⟨by simp [a], by simp; omega, fun i => ?_⟩
      cases i with
      | zero => simp
      | succ i => simpa using c' i
    · cases h

theorem overlay_spec : ∀ (cs : List AV) (o : Nat) (l r : List AV), overlay cs o l = some r → r.length = cs.length ∧ o + l.length ≤ cs.length := by
  intro cs
  induction cs with
  | nil =>
    intro o l r h
    cases o with
    | zero =>
      simp only [overlay] at h
      have := over0Spec _ _ _ h
      exact ⟨this.1, by simpa using this.2.1⟩
    | succ o => simp [overlay] at h
  | cons c cs ih =>
    intro o l r h
    cases o with
    | zero =>
      simp only [overlay] at h
      have := over0Spec _ _ _ h
      exact ⟨this.1, by simpa using this.2.1⟩
    | succ o =>
      simp only [overlay] at h
      split at h
      · rename_i r' hr'
        cases h
        have ⟨a, b⟩ := ih o l r' hr'
        exact ⟨by simp [a], by simp; omega⟩
      · cases h

theorem overlay_get : ∀ (cs : List AV) (o : Nat) (l r : List AV), overlay cs o l = some r → ∀ i, r[i]? = if o ≤ i ∧ i < o + l.length then l[i - o]? else cs[i]? := by
  intro cs
  induction cs with
  | nil =>
    intro o l r h i
    cases o with
    | zero =>
      simp only [overlay] at h
      have := (over0Spec _ _ _ h).2.2 i
      simpa using this
    | succ o => simp [overlay] at h
  | cons c cs ih =>
    intro o l r h i
    cases o with
    | zero =>
      simp only [overlay] at h
      have := (over0Spec _ _ _ h).2.2 i
      simpa using this
    | succ o =>
      simp only [overlay] at h
      split at h
      · rename_i r' hr'
        cases h
        cases i with
        | zero => rw [if_neg (by omega)]; simp
        | succ i =>
          have := ih o l r' hr' i
          simp only [List.getElem?_cons_succ, this]
          by_cases e : o ≤ i ∧ i < o + l.length
          · rw [if_pos e, if_pos (by omega), show i + 1 - (o + 1) = i - o by omega]
          · rw [if_neg e, if_neg (by omega)]
      · cases h

/-- Cells set one by one. -/
theorem foldl_set (m : List Value) : ∀ (k off : Nat) (cs : Array Value), ((m.zipIdx k).foldl (fun cs (x : Value × Nat) => cs.setIfInBounds (off + x.2) x.1) cs).size = cs.size ∧
    (off + k + m.length ≤ cs.size → ∀ i, ((m.zipIdx k).foldl (fun cs (x : Value × Nat) => cs.setIfInBounds (off + x.2) x.1) cs)[i]? = if off + k ≤ i ∧ i < off + k + m.length then m[i - (off + k)]? else cs[i]?) := by
  induction m with
  | nil => intro k off cs; exact ⟨rfl, fun _ i => by rw [if_neg (by intro ⟨a, b⟩; simp at b; omega)]; rfl⟩
  | cons x m ih =>
    intro k off cs
    obtain ⟨h1, h2⟩ := ih (k + 1) off (cs.setIfInBounds (off + k) x)
    refine ⟨by simpa using h1, fun hle i => ?_⟩
    have := h2 (by simp at hle ⊢; omega) i
    simp only [List.zipIdx_cons, List.foldl_cons]
    rw [this, Array.getElem?_setIfInBounds]
    simp at hle
    by_cases e1 : off + k = i
    · subst e1
      rw [if_neg (by omega), if_pos rfl, if_pos (by omega), if_pos (by simp)]; simp
    · by_cases e2 : off + (k + 1) ≤ i ∧ i < off + (k + 1) + m.length
      · rw [if_pos e2, if_pos (by simp; omega), show i - (off + k) = (i - (off + (k + 1))) + 1 by omega]; simp
      · rw [if_neg e2, if_neg e1, if_neg (by simp; omega)]

theorem VRs.of_get {φ : Phi} : ∀ {l : List AV} {m : List Value}, l.length = m.length → (∀ (i : Nat) (v : AV), l[i]? = some v → ∃ x, m[i]? = some x ∧ VR φ v x) → VRs φ l m
  | [], [], _, _ => .nil
  | v :: l, x :: m, hl, hg => by
    obtain ⟨y, hy, hr⟩ := hg 0 v (by simp)
    simp at hy; subst hy
    exact .cons _ _ _ _ hr (VRs.of_get (by simpa using hl) fun i u e => by simpa using hg (i + 1) u (by simpa using e))
  | [], _ :: _, hl, _ => by simp at hl
  | _ :: _, [], hl, _ => by simp at hl

theorem overlay_fold {cs l r : List AV} {o : Nat} {c m : Array Value} (hc : VRs φ cs c.toList) (hm : VRs φ l m.toList) (ho : overlay cs o l = some r) :
    VRs φ r (m.zipIdx.foldl (fun cs (x : Value × Nat) => cs.setIfInBounds (o + x.2) x.1) c).toList := by
  have hfold : m.zipIdx.foldl (fun cs (x : Value × Nat) => cs.setIfInBounds (o + x.2) x.1) c = (m.toList.zipIdx 0).foldl (fun cs (x : Value × Nat) => cs.setIfInBounds (o + x.2) x.1) c := by
    rw [← Array.foldl_toList]; simp
  have h1 := hc.length
  have h2 := hm.length
  simp at h1 h2
  obtain ⟨hs, hg⟩ := foldl_set m.toList 0 o c
  have ⟨ho1, ho2⟩ := overlay_spec _ _ _ _ ho
  have hg := hg (by simp; omega)
  rw [hfold]
  refine VRs.of_get ?_ fun i v hv => ?_
  · simp [hs, ho1, h1]
  · rw [overlay_get _ _ _ _ ho] at hv
    simp only [Array.getElem?_toList, hg, Nat.add_zero]
    by_cases e : o ≤ i ∧ i < o + l.length
    · rw [if_pos e] at hv
      obtain ⟨x, hx, hr⟩ := hm.get _ _ hv
      exact ⟨x, by rw [if_pos (by simpa [← h2] using e)]; simpa using hx, hr⟩
    · rw [if_neg e] at hv
      obtain ⟨x, hx, hr⟩ := hc.get _ _ hv
      exact ⟨x, by rw [if_neg (by simpa [← h2] using e)]; simpa using hx, hr⟩

theorem fill_ok {place placeR : Nat → Option (Nat × Nat)} (hp : ∀ i x, place i = some x → placeR i = some x) : ∀ (parts : List (Nat × AV)) (parts' : List (Nat × Value)) (cs cs' : List AV) (c : Array Value),
    PsR φ parts parts' → VRs φ cs c.toList → fillA place cs parts = some cs' → ∃ c', Instr.fill placeR c parts' = some c' ∧ VRs φ cs' c'.toList ∧ c'.size = c.size
  | [], _, cs, cs', c, .nil, hc, h => by simp only [fillA] at h; cases h; exact ⟨c, rfl, hc, rfl⟩
  | (i, v) :: l, _, cs, cs', c, .cons _ _ x _ m hv hl, hc, h => by
    simp only [fillA] at h
    split at h
    · rename_i off size hpl
      split at h
      · rename_i hsz
        split at h
        · rename_i cs1 hov
          have hsz' : v.cells.length = size := by simpa using hsz
          have hvl := hv.cells.length
          simp at hvl
          simp only [Instr.fill, hp _ _ hpl]
          have hle := (overlay_spec _ _ _ _ hov).2
          have hcl := hc.length
          simp at hcl
          have hr := overlay_fold hc hv.cells hov
          obtain ⟨c', h1, h2, h3⟩ := fill_ok hp l m cs1 cs' _ hl hr h
          have hss := (foldl_set x.cells.toList 0 off c).1
          refine ⟨c', ?_, h2, ?_⟩
          · rw [if_neg (by simp; omega)]
            exact h1
          · rw [h3]
            rw [← Array.foldl_toList]; simpa using hss
        · cases h
      · cases h
    · cases h

/-! ### structs and slices that are written out -/
theorem placesA_run (EO : EnvOk P E) : ∀ (l : List Field) (pl : List (Nat × Nat)), placesA E l = some pl → ∀ (w : World),
    (l.mapM (fun f : Field => (Prod.mk f.offset <$> sizeOf f.type : Sem (Nat × Nat)))).run P w = .ok pl w
  | [], pl, h, w => by cases h; rfl
  | f :: l, pl, h, w => by
    simp only [placesA] at h
    split at h
    · rename_i s hs
      split at h
      · rename_i r hr
        cases h
        unfold sizeA at hs
        split at hs
        · rename_i i hi
          cases hs
          rw [List.mapM_cons]
          simp [EO.size hi, placesA_run EO l r hr]
        · cases hs
      · cases h
    · cases h

theorem builtAgg_inv {x : Option (List AV)} {r : OpR} (h : builtAgg x = some r) : ∃ cs, x = some cs ∧ r = .val (.agg cs) := by
  cases x with
  | none => cases h
  | some cs => cases h; exact ⟨cs, rfl, rfl⟩

theorem build_ok (EO : EnvOk P E) {t : TypeId} {parts : List (Nat × AV)} {parts' : Array (Nat × Value)} {x : OpR} (hp : PsR φ parts parts'.toList) (hx : buildA E t parts = some x) :
    OpOk P N φ h w (vSem (Instr.build t parts')) x := by
  unfold buildA at hx
  split at hx
  · rename_i i hi
    split at hx
    · rename_i z hz
      obtain ⟨v, hv, hzv⟩ := EO.zero hi w hz
      obtain ⟨hc, hfl, _⟩ := zeroOf_VR (φ := φ) hzv
      split at hx
      · rename_i fs hd
        split at hx
        · rename_i pl hpl
          obtain ⟨cs, hf, rfl⟩ := builtAgg_inv hx
          obtain ⟨c', h1, h2, _⟩ := fill_ok (placeR := fun i => pl[i]?) (fun i x e => e) parts parts'.toList z cs v.cells hp hc hf
          have hrun := placesA_run EO fs.toList pl hpl w
          refine OpOk.pure (x := .agg c') ?_ (.agg _ _ h2)
          have hm : (fs.mapM (fun f : Field => (Prod.mk f.offset <$> sizeOf f.type : Sem (Nat × Nat)))).run P w = .ok pl.toArray w := by
            rw [Array.mapM_eq_mapM_toList]
            simp [hrun]
          simp [Instr.build, hv, EO.under hi, hd, hm, h1]
        · cases hx
      · rename_i n e hd
        split at hx
        · rename_i s hs
          obtain ⟨cs, hf, rfl⟩ := builtAgg_inv hx
          unfold sizeA at hs
          split at hs
          · rename_i j hj
            cases hs
            obtain ⟨c', h1, h2, _⟩ := fill_ok (placeR := fun i => some (i * j.size, j.size)) (fun i x e => e) parts parts'.toList z cs v.cells hp hc hf
            refine OpOk.pure (x := .agg c') ?_ (.agg _ _ h2)
            simp [Instr.build, hv, EO.under hi, hd, EO.size hj, h1]
          · cases hs
        · cases hx
      · cases hx
    · cases hx
  · cases hx

/-! ### so many zeros -/
theorem zeros_length (z : List AV) : ∀ n, (zeros z n).length = n * z.length
  | 0 => by simp [zeros]
  | n + 1 => by simp [zeros, zeros_length z n, Nat.succ_mul, Nat.add_comm]
theorem zeros_get (z : List AV) (hz : 0 < z.length) : ∀ (n i : Nat), i < n * z.length → (zeros z n)[i]? = z[i % z.length]?
  | 0, i, h => by simp at h
  | n + 1, i, h => by
    rw [Nat.succ_mul] at h
    simp only [zeros]
    by_cases e : i < z.length
    · rw [List.getElem?_append_left e, Nat.mod_eq_of_lt e]
    · rw [List.getElem?_append_right (by omega), zeros_get z hz n (i - z.length) (by omega)]
      rw [Nat.mod_eq_sub_mod (by omega : i ≥ z.length)]
theorem zeros_flat (z : List AV) (hz : allFlat z = true) : ∀ n, allFlat (zeros z n) = true
  | 0 => rfl
  | n + 1 => by
    have app : ∀ (a b : List AV), allFlat a = true → allFlat b = true → allFlat (a ++ b) = true := by
      intro a
      induction a with
      | nil => intro b _ hb; exact hb
      | cons v a ih =>
        intro b ha hb
        simp only [allFlat, List.cons_append] at ha ⊢
        split at ha
        · rename_i hv; exact ih b ha hb
        · cases ha
    exact app _ _ hz (zeros_flat z hz n)
theorem zeros_VRs {z : List AV} {v : Array Value} (hv : VRs φ z v.toList) (hz : 0 < z.length) (n : Nat) : VRs φ (zeros z n) ((Array.range (n * z.length)).map fun i => v[i % v.size]!).toList := by
  have hl := hv.length
  simp at hl
  refine VRs.of_get (by simp [zeros_length]) fun i a ha => ?_
  have hi : i < n * z.length := by
    rcases Nat.lt_or_ge i (zeros z n).length with h | h
    · simpa [zeros_length] using h
    · rw [List.getElem?_eq_none h] at ha; cases ha
  rw [zeros_get z hz n i hi] at ha
  obtain ⟨x, hx, hr⟩ := hv.get _ _ ha
  refine ⟨x, ?_, hr⟩
  simp only [Array.toList_map, Array.toList_range, List.getElem?_map, List.getElem?_range hi, Option.map_some]
  congr 1
  rw [← hl]
  simp only [Array.getElem?_toList] at hx
  rw [getElem!_def, hx]

theorem elemA_spec {t e : TypeId} {y : TInf} (he : elemA E t = some (e, y)) : ∃ i, E.ti.get t = some i ∧ i.desc = .slice e ∧ E.ti.get e = some y := by
  unfold elemA at he
  split at he
  · rename_i i hi
    split at he
    · rename_i e' hd
      split at he
      · rename_i y' hy
        cases he
        exact ⟨i, hi, hd, hy⟩
      · cases he
    · cases he
  · cases he

theorem buildSlice_ok (EO : EnvOk P E) (r : R N φ h w) {t : TypeId} {len : Nat} {parts : List (Nat × AV)} {parts' : Array (Nat × Value)} {x : OpR} (hp : PsR φ parts parts'.toList)
    (hx : buildSliceA E h t len parts = some x) : OpOk P N φ h w (vSem (Instr.buildSlice t len parts')) x := by
  unfold buildSliceA at hx
  split at hx
  · rename_i e y he
    obtain ⟨i, hi, hd, hy⟩ := elemA_spec he
    split at hx
    · rename_i z hz
      split at hx
      · rename_i h1 h2
        have h1 : z.length = y.size := by simpa using h1
        have h2 : len * y.size ≤ 1000000 := by simpa using h2
        split at hx
        · rename_i cs hcs
          split at hx
          · rename_i hfl
            cases hx
            obtain ⟨v, hv, hzv⟩ := EO.zero hy w hz
            obtain ⟨hc, _, _⟩ := zeroOf_VR (φ := φ) hzv
            have hvl := hc.length
            simp at hvl
            by_cases h0 : len * y.size = 0
            · have hz0 : zeros z len = [] := by
                apply List.eq_nil_of_length_eq_zero; rw [zeros_length, h1]; exact h0
              rw [hz0] at hcs
              obtain ⟨c', f1, f2, f3⟩ := fill_ok (placeR := fun i => some (i * y.size, y.size)) (fun i x e => e) parts parts'.toList [] cs #[] hp .nil hcs
              have hs := Sim.row r e 0 cs c' f2 hfl
              refine OpOk.made (x := .slice (some ⟨w.heap.size, 0, none⟩) len len) ?_ (.sliceX _ _ _ _ _ (Phi.put_same _ _ _)) hs
              have e0 : Array.range 0 = (#[] : Array Nat) := rfl
              simp [Instr.buildSlice, EO.under hi, hd, EO.size hy, h0, e0, f1, newRow]
            · have hzp : 0 < z.length := by
                rw [h1]; exact Nat.pos_of_ne_zero fun e => h0 (by rw [e]; simp)
              have hzs := zeros_VRs hc hzp len
              obtain ⟨c', f1, f2, f3⟩ := fill_ok (placeR := fun i => some (i * y.size, y.size)) (fun i x e => e) parts parts'.toList (zeros z len) cs _ hp hzs hcs
              have hs := Sim.row r e 0 cs c' f2 hfl
              refine OpOk.made (x := .slice (some ⟨w.heap.size, 0, none⟩) len len) ?_ (.sliceX _ _ _ _ _ (Phi.put_same _ _ _)) hs
              rw [h1] at f1
              simp [Instr.buildSlice, EO.under hi, hd, EO.size hy, h0, hv, f1, newRow]
              omega
          · cases hx
        · cases hx
      · cases hx
    · cases hx
  · cases hx

theorem makeSlice_ok (EO : EnvOk P E) (r : R N φ h w) {t : TypeId} {l c : AV} {l' c' : Value} {x : OpR} (hl : VR φ l l') (hc : VR φ c c') (hx : makeSliceA E h t l c = some x) :
    OpOk P N φ h w (vSem (Instr.makeSlice t l' c')) x := by
  unfold makeSliceA at hx
  split at hx
  · rename_i e y k1 n k2 m he
    obtain ⟨i, hi, hd, hy⟩ := elemA_spec he
    cases hl; cases hc
    split at hx
    · rename_i z hz
      split at hx
      · rename_i h1 h2 h3 h4 h5
        have h1 : n ≤ m := by simpa using h1
        have h2 : m ≤ 100000 := by simpa using h2
        have h3 : y.bytes ≤ 100000 := by simpa using h3
        have h4 : z.length = y.size := by simpa using h4
        cases hx
        obtain ⟨v, hv, hzv⟩ := EO.zero hy w hz
        obtain ⟨hcz, _, _⟩ := zeroOf_VR (φ := φ) hzv
        obtain ⟨ti, hti, hby⟩ := EO.type hy w
        have hmul : y.bytes * m ≤ 100000 * 100000 := Nat.mul_le_mul h3 h2
        have w1 : ∀ k : Nat, k ≤ 100000 → IntKind.i64.wrap (k : Int) = k := by
          intro k hk
          unfold IntKind.wrap
          simp [IntKind.bits, IntKind.signed]
          omega
        have hbm : ¬ ((y.bytes : Int) * (m : Int) > 281474976710656) := by
          have : (y.bytes : Int) * (m : Int) = ((y.bytes * m : Nat) : Int) := by simp
          omega
        by_cases h0 : m * y.size = 0
        · have hz0 : zeros z m = [] := by
            apply List.eq_nil_of_length_eq_zero; rw [zeros_length, h4]; exact h0
          rw [hz0]
          have hs := Sim.row r e 0 [] #[] .nil rfl
          refine OpOk.made (x := .slice (some ⟨w.heap.size, 0, none⟩) n m) ?_ (.sliceX _ _ _ _ _ (Phi.put_same _ _ _)) hs
          have e0 : Array.range 0 = (#[] : Array Nat) := rfl
          simp [Instr.makeSlice, EO.under hi, hd, asInt, asIntOf, hti, hby, w1 n (by omega), w1 m h2, hbm, EO.size hy, h0, e0, newRow]
          first | (intro hbad; exfalso; omega) | (rw [if_neg (show ¬ (((m : Int) < 0 ∨ (n : Int) < 0) ∨ m < n) by omega)])
        · have hzp : 0 < z.length := by
            rw [h4]; exact Nat.pos_of_ne_zero fun e => h0 (by rw [e]; simp)
          have hzs := zeros_VRs hcz hzp m
          rw [h4] at hzs
          have hs := Sim.row r e 0 (zeros z m) _ hzs (zeros_flat z h5 m)
          refine OpOk.made (x := .slice (some ⟨w.heap.size, 0, none⟩) n m) ?_ (.sliceX _ _ _ _ _ (Phi.put_same _ _ _)) hs
          simp [Instr.makeSlice, EO.under hi, hd, asInt, asIntOf, hti, hby, w1 n (by omega), w1 m h2, hbm, EO.size hy, h0, hv, newRow]
          first | (intro hbad; exfalso; omega) | (rw [if_neg (show ¬ (((m : Int) < 0 ∨ (n : Int) < 0) ∨ m < n) by omega)])
      · cases hx
    · cases hx
  · cases hx
end
end Go.Abs
