/- The abstract machine: what an operation depends on, by its class; no conditions. -/
import Derived.Test.YtlidmkmjemoaeaaGreatDoorAbsF2
set_option linter.unusedVariables false
set_option linter.unusedSimpArgs false
set_option linter.unusedSectionVars false
namespace Go.Abs
variable [Opq]
open Go

/-! ### the frame: only the operands' slots -/
theorem readsO_mem {t : Nat} : ∀ {l : List Operand}, Operand.tmp t ∈ l → t ∈ readsO l
  | x :: l, h => by
    rcases List.mem_cons.1 h with h | h
    · subst h; simp [readsO]
    · have := readsO_mem h
      cases x <;> simp [readsO, this]

section congr
variable {fr fr' : Fr}
theorem opnd_congr {x : Operand} (h : ∀ t, x = .tmp t → fr.get t = fr'.get t) : opnd fr x = opnd fr' x := by
  cases x with
  | tmp t => exact h t rfl
  | _ => rfl
theorem opnds_congr : ∀ {l : List Operand}, (∀ x ∈ l, opnd fr x = opnd fr' x) → opnds fr l = opnds fr' l
  | [], _ => rfl
  | x :: l, h => by simp only [opnds, h x (by simp), opnds_congr (l := l) fun y hy => h y (by simp [hy])]
theorem partsA_congr : ∀ {l : List (Nat × Operand)}, (∀ x ∈ l.map (·.2), opnd fr x = opnd fr' x) → partsA fr l = partsA fr' l
  | [], _ => rfl
  | (i, x) :: l, h => by simp only [partsA, h x (by simp), partsA_congr (l := l) fun y hy => h y (by simp at hy ⊢; exact .inr hy)]
theorem optA_congr {x : Option Operand} (h : ∀ y ∈ x.toArray, opnd fr y = opnd fr' y) : optA fr x = optA fr' x := by
  cases x with
  | none => rfl
  | some y => simp only [optA, h y (by simp)]

theorem opA_congr0 {E : Env} {h : AHeap} {op : Op} (hx : ∀ x ∈ op.operands, opnd fr x = opnd fr' x) : opA E h fr op = opA E h fr' op := by
  cases op <;> simp only [Op.operands] at hx <;> simp only [opA] <;> first
    | rfl
    | (rw [hx _ (by simp)]; done)
    | (rw [hx _ (by simp), hx _ (List.mem_toArray.2 (by simp))]; done)
    | skip
  case pick c a b => rw [hx c (by simp), hx a (by simp), hx b (by simp)]
  case build t ps => rw [partsA_congr fun x hxm => hx x (by simpa using hxm)]
  case buildSlice t n ps => rw [partsA_congr fun x hxm => hx x (by simpa using hxm)]
  case makeFunc fn a b => rw [opnds_congr (l := a.toList) fun x hxm => hx x (by simp at hxm ⊢; exact .inl hxm), opnds_congr (l := b.toList) fun x hxm => hx x (by simp at hxm ⊢; exact .inr hxm)]
  case slice t x l hh m => rw [hx x (by simp), optA_congr (x := l) fun y hy => hx y (by simp at hy ⊢; exact .inr (.inl hy)), optA_congr (x := hh) fun y hy => hx y (by simp at hy ⊢; exact .inr (.inr (.inl hy))), optA_congr (x := m) fun y hy => hx y (by simp at hy ⊢; exact .inr (.inr (.inr hy)))]
  case mapUpdate t m k v => rw [hx m (by simp), hx k (by simp), hx v (by simp)]
  case call c =>
    unfold callOpA
    cases hc : c.callee with
    | value f => simp only [Call.operands, hc] at hx ⊢; rw [hx f (by simp), opnds_congr (l := c.args.toList) fun x hxm => hx x (by simp at hxm ⊢; exact .inr hxm)]
    | invoke r m => rfl
    | builtin b => simp only [Call.operands, hc] at hx ⊢; rw [opnds_congr (l := c.args.toList) fun x hxm => hx x (by simp at hxm ⊢; exact hxm)]
  case defer c =>
    unfold deferOpA
    cases hc : c.callee with
    | value f => simp only [Call.operands, hc] at hx ⊢; rw [hx f (by simp), opnds_congr (l := c.args.toList) fun x hxm => hx x (by simp at hxm ⊢; exact .inr hxm)]
    | _ => rfl

theorem opA_congr {E : Env} {h : AHeap} {op : Op} (hx : ∀ t ∈ readsO op.operands.toList, fr.get t = fr'.get t) : opA E h fr op = opA E h fr' op :=
  opA_congr0 fun x hm => opnd_congr fun t e => hx t (readsO_mem (by rw [← e]; simpa using hm))
end congr

/-! ### the memory -/
def HSub (h h' : AHeap) : Prop := ∀ b o, h.get b = some o → h'.get b = some o

section mono
variable {E : Env} {h h' : AHeap} {fr : Fr}

theorem binA_mono {op : BinOp} (h1 : op ≠ .eql) (h2 : op ≠ .neq) (t : TypeId) (c : Bool) (x y : AV) : binA E h' op t c x y = binA E h op t c x y := by
  unfold binA
  split <;> first | rfl | (cases op <;> first | rfl | exact absurd rfl h1 | exact absurd rfl h2)

theorem convA_mono {s d : TypeId} (hd : isSlice E d = false) (hs : isSlice E s = false) (hu : isUnsafe E d = false) (x : AV) : convA E h' s d x = convA E h s d x := by
  unfold isSlice at hd hs
  unfold isUnsafe at hu
  unfold convA
  cases hsi : E.ti.get s with
  | none => rfl
  | some si =>
    cases hdi : E.ti.get d with
    | none => rfl
    | some di =>
      rw [hsi] at hs; rw [hdi] at hd hu
      simp only at hs hd hu ⊢
      split <;> first | rfl | (rename_i e; rw [e] at hd; cases hd) | (rename_i e _; rw [e] at hs; cases hs) | (rename_i e; rw [e] at hu; cases hu) | skip
      all_goals
        exfalso
        rename_i e2 e3
        simp_all

theorem pure_spec {op : Op} (hc : cls E op = .pure) (h' : AHeap) : opA E h' fr op = opA E h fr op := by
  cases op <;> first | rfl | (simp [cls] at hc; done) | skip
  case binOp op t x y c =>
    have h1 : op ≠ .eql := by intro e; subst e; simp [cls] at hc
    have h2 : op ≠ .neq := by intro e; subst e; simp [cls] at hc
    simp only [opA]
    cases opnd fr x with
    | none => rfl
    | some u => cases opnd fr y with
      | none => rfl
      | some v => exact binA_mono h1 h2 _ _ _ _
  case convert s d x =>
    have hcc : isSlice E d = false ∧ isSlice E s = false ∧ isUnsafe E d = false := by
      simp only [cls] at hc
      split at hc
      · cases hc
      · cases hc
      · rename_i h1 h2
        have h2 : (isSlice E s || isUnsafe E d) = false := h2
        rw [Bool.or_eq_false_iff] at h2
        exact ⟨h1, h2⟩
    simp only [opA]
    cases opnd fr x with
    | none => rfl
    | some u => exact convA_mono hcc.1 hcc.2.1 hcc.2.2 _
  case call c =>
    obtain ⟨callee, args, ats⟩ := c
    cases callee with
    | value f => simp [cls] at hc
    | invoke r m => rfl
    | builtin b =>
      simp only [opA, callOpA]
      cases opnds fr args.toList with
      | none => rfl
      | some l =>
        simp only [oL]
        cases b <;> first | rfl | (simp [cls] at hc; done) | skip
        case cap =>
          simp only [builtA]
          generalize ats.toList = m
          cases m with
          | nil => rfl
          | cons t m => cases l with
            | nil => rfl
            | cons x l => cases l <;> rfl
        simp only [cls] at hc
        split at hc
        · rename_i t ht
          split at hc
          · cases hc
          · rename_i hm
            have key : ∀ x, lenB E h' t x = lenB E h t x := fun x => by
              unfold lenB
              cases hi : E.ti.get t with
              | none => rfl
              | some i =>
                simp only
                split <;> first | rfl | skip
                rename_i hd
                simp [isMap, hi, hd] at hm
            have ht' : ats.toList[0]? = some t := by simpa using ht
            simp only [builtA]
            generalize ats.toList = m at ht'
            cases m with
            | nil => rfl
            | cons t' m =>
              simp at ht'; subst ht'
              cases l with
              | nil => rfl
              | cons x l => cases l with
                | nil =>
                  show (match lenB E h' t' x with | some v => some (OpR.val v) | none => none) = _
                  rw [key]; rfl
                | cons y l => rfl
        · cases hc

theorem load_mono (hs : HSub h h') {b o n : Nat} {l : List AV} (hl : h.load b o n = some l) : h'.load b o n = some l := by
  unfold AHeap.load at hl ⊢
  cases hg : h.get b with
  | none => rw [hg] at hl; cases hl
  | some x => rw [hs b x hg]; rw [hg] at hl; exact hl

theorem loadA_mono (hs : HSub h h') {t : TypeId} {a v : AV} (hl : loadA E h t a = some v) : loadA E h' t a = some v := by
  unfold loadA at hl ⊢
  split at hl
  · split at hl
    · unfold loadT at hl ⊢
      split at hl
      · rename_i ha
        split at hl
        · rename_i l hl'
          simp only [ha, load_mono hs hl', hl]
        · cases hl
      · rename_i ha
        split at hl
        · rename_i v l hl'
          simp only [ha, load_mono hs hl', hl]
        · cases hl
    · cases hl
  · cases hl

theorem lookupA_mono (hs : HSub h h') {t : TypeId} {x k v : AV} {ok : Bool} (hl : lookupA E h t x k ok = some v) : lookupA E h' t x k ok = some v := by
  unfold lookupA at hl ⊢
  split at hl
  · split at hl
    · split at hl
      · exact hl
      · split at hl
        · rename_i es _ hg
          simp only [hs _ _ hg]
          exact hl
        · cases hl
      · cases hl
    · cases hl
  · cases hl

theorem ownRow_mono (hs : HSub h h') {b : Nat} (hl : ownRow h b = true) : ownRow h' b = true := by
  unfold ownRow at hl ⊢
  split at hl
  · rename_i hg; simp only [hs _ _ hg]; exact hl
  · cases hl
theorem rowEz_mono (hs : HSub h h') {b z : Nat} (hl : rowEz h b z = true) : rowEz h' b z = true := by
  unfold rowEz at hl ⊢
  split at hl
  · rename_i hg; simp only [hs _ _ hg]; exact hl
  · cases hl

theorem eqVal_mono (hs : HSub h h') {t : TypeId} {x y : AV} {q : Bool} (hl : eqVal E h t x y = some q) : eqVal E h' t x y = some q := by
  unfold eqVal at hl ⊢
  split at hl
  · split at hl <;> first | exact hl | skip
    split at hl
    · split at hl
      · exact hl
      · split at hl
        · rename_i e2
          have := Bool.and_eq_true _ _ ▸ e2
          rw [ownRow_mono hs this.1, ownRow_mono hs this.2]; exact hl
        · cases hl
    · cases hl
  · cases hl

theorem binEq_mono (hs : HSub h h') {op : BinOp} (ho : op = .eql ∨ op = .neq) {t : TypeId} {c : Bool} {x y : AV} {r : OpR} (hl : binA E h op t c x y = some r) : binA E h' op t c x y = some r := by
  unfold binA at hl ⊢
  split at hl
  · exact hl
  · exact hl
  · exact hl
  · rcases ho with rfl | rfl
    · simp only at hl ⊢
      split at hl
      · rename_i b he; rw [eqVal_mono hs he]; exact hl
      · cases hl
    · simp only at hl ⊢
      split at hl
      · rename_i b he; rw [eqVal_mono hs he]; exact hl
      · cases hl

theorem sliceN_mono (hs : HSub h h') {b o z len : Nat} {lo hi : Option AV} {r : OpR} (hl : sliceN h b o z len lo hi = some r) : sliceN h' b o z len lo hi = some r := by
  unfold sliceN at hl ⊢
  split at hl
  · rename_i he hb; simp only [rowEz_mono hs he, hb]; exact hl
  · cases hl

theorem sliceA_mono (hs : HSub h h') {t : TypeId} {x : AV} {lo hi mx : Option AV} {r : OpR} (hl : sliceA E h t x lo hi mx = some r) : sliceA E h' t x lo hi mx = some r := by
  unfold sliceA at hl ⊢
  split at hl
  · split at hl <;> first | exact hl | skip
    unfold sliceV at hl ⊢
    split at hl
    · split at hl <;> first | exact hl | skip
      · split at hl
        · exact sliceN_mono hs hl
        · split at hl
          · rename_i he; simp only [rowEz_mono hs he]; exact hl
          · cases hl
      · split at hl
        · rename_i he; simp only [rowEz_mono hs he]; exact hl
        · cases hl
    · cases hl
  · cases hl

theorem convL_mono (hs : HSub h h') {s d : TypeId} (hd : isSlice E d = false) {x : AV} {r : OpR} (hl : convA E h s d x = some r) : convA E h' s d x = some r := by
  unfold convA at hl ⊢
  split at hl
  · rename_i si di hsi hdi
    unfold isSlice at hd
    rw [hdi] at hd
    simp only at hd ⊢
    split at hl <;> first | exact hl | (rename_i e; rw [e] at hd; cases hd; done) | skip
    · split at hl
      · rename_i hy hld
        simp only [hy, load_mono hs hld]; exact hl
      · cases hl
    split at hl
    · split at hl
      · split at hl
        · rename_i l hld
          simp only [load_mono hs hld]; exact hl
        · cases hl
      · cases hl
    · cases hl
  · cases hl

theorem lenB_mono (hs : HSub h h') {t : TypeId} {x v : AV} (hl : lenB E h t x = some v) : lenB E h' t x = some v := by
  unfold lenB at hl ⊢
  split at hl
  · split at hl <;> first | exact hl | skip
    split at hl
    · rename_i hg; simp only [hs _ _ hg]; exact hl
    · cases hl
  · cases hl

/-- What a look sees, it sees in a larger memory. -/
theorem look_spec {op : Op} {v : AV} (hc : cls E op = .look) (hs : HSub h h') (hx : opA E h fr op = some (.val v)) : opA E h' fr op = some (.val v) := by
  cases op <;> first | (simp [cls] at hc; done) | skip
  case load t a =>
    simp only [opA] at hx ⊢
    obtain ⟨u, hu, hx⟩ := o1Inv hx
    obtain ⟨q, hq, hx⟩ := oVal_inv hx
    cases hx
    rw [hu]
    simp only [o1, loadA_mono hs hq, oVal]
  case binOp op t x y c =>
    simp only [opA] at hx ⊢
    obtain ⟨u, q, hu, hq, hx⟩ := o2Inv hx
    rw [hu, hq]
    have ho : op = .eql ∨ op = .neq := by cases op <;> first | exact .inl rfl | exact .inr rfl | (simp [cls] at hc; done)
    exact binEq_mono hs ho hx
  case convert s d x =>
    have hcc : isSlice E d = false := by
      simp only [cls] at hc
      split at hc <;> first | assumption | cases hc
    simp only [opA] at hx ⊢
    obtain ⟨u, hu, hx⟩ := o1Inv hx
    rw [hu]
    exact convL_mono hs hcc hx
  case slice t x lo hi mx =>
    simp only [opA] at hx ⊢
    obtain ⟨u, hu, hx⟩ := o1Inv hx
    obtain ⟨lo', h1, hx⟩ := oO_inv hx
    obtain ⟨hi', h2, hx⟩ := oO_inv hx
    obtain ⟨mx', h3, hx⟩ := oO_inv hx
    rw [hu, h1, h2, h3]
    exact sliceA_mono hs hx
  case lookup t x k ok =>
    simp only [opA] at hx ⊢
    obtain ⟨u, q, hu, hq, hx⟩ := o2Inv hx
    obtain ⟨z, hz, hx⟩ := oVal_inv hx
    cases hx
    rw [hu, hq]
    simp only [o2, lookupA_mono hs hz, oVal]
  case call c =>
    obtain ⟨callee, args, ats⟩ := c
    cases callee with
    | value f => simp [cls] at hc
    | invoke r m => simp [cls] at hc
    | builtin b =>
      cases b <;> first | (simp [cls] at hc; done) | skip
      case len =>
        simp only [opA, callOpA] at hx ⊢
        obtain ⟨l, hl, hx⟩ := oL_inv hx
        rw [hl]
        simp only [oL, builtA] at hx ⊢
        unfold builtinA at hx ⊢
        split at hx <;> first | exact hx | (rename_i e _ _; cases e; done) | (rename_i e _; cases e; done) | skip
        split at hx
        · rename_i q hq
          simp only [lenB_mono hs hq]
          exact hx
        · cases hx

/-- What makes a new block, makes it whatever else there is. -/
theorem alloc_spec {op : Op} {v : AV} {h₁ : AHeap} (hc : cls E op = .alloc) (hx : opA E h fr op = some (.mem v h₁)) :
    ∃ o, h₁ = h.new o ∧ ∀ h', h'.next = h.next → opA E h' fr op = some (.mem v (h'.new o)) := by
  cases op <;> first | (simp [cls] at hc; done) | skip
  case alloc t =>
    simp only [opA, allocA] at hx ⊢
    split at hx
    · split at hx
      · cases hx
        exact ⟨_, rfl, fun h' e => by simp only [e, AHeap.row]⟩
      · cases hx
    · cases hx
  case box t x =>
    simp only [opA] at hx ⊢
    obtain ⟨u, hu, hx⟩ := o1Inv hx
    rw [hu]
    simp only [o1, boxA] at hx ⊢
    split at hx
    · cases hx
      exact ⟨_, rfl, fun h' e => by simp only [e, AHeap.row]⟩
    · cases hx
  case buildSlice t n ps =>
    simp only [opA] at hx ⊢
    obtain ⟨u, hu, hx⟩ := oP_inv hx
    rw [hu]
    simp only [oP, buildSliceA] at hx ⊢
    split at hx
    · split at hx
      · split at hx
        · split at hx
          · split at hx
            · cases hx
              exact ⟨_, rfl, fun h' e => by simp only [e, AHeap.row]⟩
            · cases hx
          · cases hx
        · cases hx
      · cases hx
    · cases hx
  case makeMap t r =>
    simp only [opA, makeMapA] at hx ⊢
    split at hx
    · split at hx
      · cases hx
        exact ⟨_, rfl, fun h' e => by simp only [e]⟩
      · cases hx
    · cases hx
  case makeSlice t l c =>
    simp only [opA] at hx ⊢
    obtain ⟨u, q, hu, hq, hx⟩ := o2Inv hx
    rw [hu, hq]
    simp only [o2, makeSliceA] at hx ⊢
    split at hx
    · split at hx
      · split at hx
        · cases hx
          exact ⟨_, rfl, fun h' e => by simp only [e, AHeap.row]⟩
        · cases hx
      · cases hx
    · cases hx
  case convert s d x =>
    simp only [opA] at hx ⊢
    obtain ⟨u, hu, hx⟩ := o1Inv hx
    rw [hu]
    simp only [o1, convA] at hx ⊢
    split at hx
    · split at hx <;> first | (cases hx; done) | skip
      · cases vInt_inv hx
      · split at hx
        · split at hx <;> cases hx
        · cases hx
      · split at hx
        · split at hx
          · cases hx
            exact ⟨_, rfl, fun h' e => by simp only [e, AHeap.row]⟩
          · cases hx
        · cases hx
      · split at hx
        · split at hx <;> cases hx
        · cases hx
      · split at hx
        · split at hx <;> cases hx
        · cases hx
      · split at hx
        · split at hx
          · split at hx
            · split at hx
              · cases vStr_inv hx
              · cases hx
            · cases hx
          · cases hx
        · cases hx
    · cases hx
  case binOp op t x y c =>
    cases op <;> simp [cls] at hc
  case call c =>
    obtain ⟨callee, args, ats⟩ := c
    cases callee with
    | value f => simp [cls] at hc
    | invoke r m => simp [cls] at hc
    | builtin b =>
      cases b <;> first | (simp [cls] at hc; done) | skip
      all_goals
        simp only [cls] at hc
        split at hc
        · split at hc <;> cases hc
        · cases hc
end mono
end Go.Abs
