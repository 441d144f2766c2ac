/- The abstract machine: maps and iterators, both machines; no conditions. -/
import Derived.Test.YtlidmkmjemoaeaaGreatDoorAbsE9
set_option linter.unusedVariables false
set_option linter.unusedSimpArgs false
set_option linter.unusedSectionVars false
namespace Go.Abs
variable [Opq]
open Go
section
variable {P : Program} {E : Env} {N : FuncId → Nat} {φ : Phi} {h : AHeap} {w : World}

/-- What is found. -/
def FoundR (φ : Phi) : Option (Nat × AV) → Option (Nat × Value) → Prop
  | none, none => True
  | some (i, v), some (j, x) => i = j ∧ VR φ v x
  | _, _ => False

theorem eqT_leaf {n : Nat} {t : TypeId} {a b : AV} {q : Bool} (hq : eqT E n t a b = some q) : ∃ i, E.ti.get t = some i := by
  cases n with
  | zero => simp [eqT] at hq
  | succ n =>
    simp only [eqT] at hq
    split at hq
    · exact ⟨_, by assumption⟩
    · cases hq

theorem sameNow_eq {n : Nat} {t : TypeId} {i : TInf} (hi : E.ti.get t = some i) {a b : AV} {x y : Value} {q s : Bool} (hx : VR φ a x) (hy : VR φ b y) (hq : eqT E n t a b = some q) (hs : Instr.sameNow i.desc x y = some s) : s = q := by
  cases n with
  | zero => simp [eqT] at hq
  | succ n =>
    simp only [eqT, hi] at hq
    split at hq
    · rename_i hd; cases hx; cases hy; cases hq
      simp [Instr.sameNow, hd] at hs; rw [← hs]
    · rename_i hd; cases hx; cases hy
      split at hq
      · rename_i hk
        cases hq
        simp [Instr.sameNow, hd] at hs
        rw [← hs.2, Bool.eq_iff_iff]; simp
      · cases hq
    · rename_i hd
      cases hx with
      | str u1 _ e1 =>
        cases hy with
        | str u2 _ e2 =>
          subst e1 e2
          cases hq
          simp [Instr.sameNow, hd] at hs
          rw [eqBytes_eq, ← hs]
    · rename_i hd; cases hx; cases hy; simp [Instr.sameNow, hd] at hs
    · rename_i hd; cases hx; cases hy; simp [Instr.sameNow, hd] at hs
    · cases hq

theorem findAsking_ok (EO : EnvOk P E) {kt : TypeId} {k : AV} {y : Value} (hk : VR φ k y) (w : World) : ∀ (es : List (AV × AV × Nat)) (m : List MapEntry) (i : Nat) (r : Option (Nat × AV)), EsR φ es m → findE E kt k es i = some r →
    ∃ r', (Instr.findAsking kt y m i).run P w = .ok r' w ∧ FoundR φ r r'
  | [], _, i, r, .nil, h => by simp only [findE] at h; cases h; exact ⟨none, rfl, trivial⟩
  | _, _, i, r, .cons k' v b x z l m hk' hv hl, h => by
    simp only [findE] at h
    split at h
    · rename_i hq
      cases h
      have := eqT_ok EO 9 kt k k' y x true hk hk' hq 10000 w (by omega)
      refine ⟨some (i, z), ?_, rfl, hv⟩
      have e : Op.equal kt y x = Op.equalIn 10000 kt y x := rfl
      simp [Instr.findAsking, e, this]
    · rename_i hq
      obtain ⟨r', h1, h2⟩ := findAsking_ok EO hk w l m (i + 1) r hl h
      have := eqT_ok EO 9 kt k k' y x false hk hk' hq 10000 w (by omega)
      refine ⟨r', ?_, h2⟩
      have e : Op.equal kt y x = Op.equalIn 10000 kt y x := rfl
      simp [Instr.findAsking, e, this, h1]
    · cases h

theorem findNow_ok {kt : TypeId} {ti : TInf} (hi : E.ti.get kt = some ti) {k : AV} {y : Value} (hk : VR φ k y) : ∀ (es : List (AV × AV × Nat)) (m : List MapEntry) (i : Nat) (r : Option (Nat × AV)) (r' : Option (Nat × Value)), EsR φ es m → findE E kt k es i = some r →
    Instr.findNow ti.desc y m i = some r' → FoundR φ r r'
  | [], _, i, r, r', .nil, h, h' => by simp only [findE] at h; cases h; simp only [Instr.findNow] at h'; cases h'; trivial
  | _, _, i, r, r', .cons k' v b x z l m hk' hv hl, h, h' => by
    simp only [findE] at h
    simp only [Instr.findNow] at h'
    split at h'
    · rename_i hs
      split at h
      · cases h; cases h'; exact ⟨rfl, hv⟩
      · rename_i hq
        have := sameNow_eq hi hk hk' hq hs
        cases this
      · cases h
    · rename_i hs
      split at h
      · rename_i hq
        have := sameNow_eq hi hk hk' hq hs
        cases this
      · exact findNow_ok hi hk l m (i + 1) r r' hl h h'
      · cases h
    · cases h'

theorem findKey_ok (EO : EnvOk P E) {kt : TypeId} {ti : TInf} (hi : E.ti.get kt = some ti) {k : AV} {y : Value} (hk : VR φ k y) (w : World) {es : List (AV × AV × Nat)} {m : List MapEntry} {r : Option (Nat × AV)} (he : EsR φ es m) (h : findE E kt k es 0 = some r) :
    ∃ r', (Instr.findKey kt y m).run P w = .ok r' w ∧ FoundR φ r r' := by
  simp only [Instr.findKey, Sem.run_bind, EO.under hi w, Result.andThen_ok]
  cases hn : Instr.findNow ti.desc y m 0 with
  | none => exact findAsking_ok EO hk w es m 0 r he h
  | some r' => exact ⟨r', rfl, findNow_ok hi hk es m 0 r r' he h hn⟩

theorem mapT_spec {t kt et : TypeId} (hm : mapT E t = some (kt, et)) : ∃ i, E.ti.get t = some i ∧ i.desc = .map kt et := by
  unfold mapT at hm
  split at hm
  · split at hm
    · cases hm; exact ⟨_, by assumption, by assumption⟩
    · cases hm
  · cases hm

theorem keyOk_info {t : TypeId} {k : AV} (hk : keyOk E t k = true) : ∃ i, E.ti.get t = some i := by
  simp only [keyOk, keyT] at hk
  split at hk
  · exact ⟨_, by assumption⟩
  · cases hk

theorem EsR.length : ∀ {es : List (AV × AV × Nat)} {m : List MapEntry}, EsR φ es m → es.length = m.length
  | _, _, .nil => rfl
  | _, _, .cons _ _ _ _ _ _ _ _ _ hl => by simp [hl.length]

theorem lookup_ok (EO : EnvOk P E) (r : R N φ h w) {t : TypeId} {v k u : AV} {y z : Value} {ok : Bool} (hv : VR φ v y) (hk : VR φ k z) (hx : lookupA E h t v k ok = some u) :
    ∃ x, (Instr.lookup t y z ok).run P w = .ok x w ∧ VR φ u x := by
  unfold lookupA at hx
  split at hx
  · rename_i kt et hm
    obtain ⟨i, hi, hd⟩ := mapT_spec hm
    have hu := EO.under hi w
    split at hx
    · rename_i ti hko het
      have hck : ∀ em, (Instr.checkKey em 10000 kt z).run P w = .ok () w := fun em => keyT_ok EO em 9 kt k z hko hk 10000 w (by omega)
      split at hx
      · cases hv
        obtain ⟨x, hz, hr⟩ := lookZ_ok EO het hx φ w
        obtain ⟨ki, hki⟩ := keyOk_info hko
        obtain ⟨r', hf, hfr⟩ := findKey_ok EO hki hk w (es := []) (m := []) .nil (r := none) rfl
        have : r' = none := by cases r' with | none => rfl | some _ => exact hfr.elim
        subst this
        refine ⟨_, ?_, hr⟩
        simp [Instr.lookup, hu, hd, hck, hf, hz]
      · rename_i rr
        cases hv with
        | map _ p hp h0 =>
          split at hx
          · rename_i es clock hg
            obtain ⟨_, es', hes, he⟩ := r.obj rr p _ hp hg
            have hlen := he.length
            obtain ⟨ki, hki⟩ := keyOk_info hko
            split at hx
            · rename_i j a hf
              cases hx
              obtain ⟨r', hf', hfr⟩ := findKey_ok EO hki hk w he hf
              cases r' with
              | none => exact hfr.elim
              | some jx =>
                obtain ⟨j', x'⟩ := jx
                obtain ⟨rfl, hvx⟩ := hfr
                refine ⟨_, ?_, okV_VR hvx⟩
                simp [Instr.lookup, hu, hd, getObj, Sem.run, hes, hck, hf']
            · rename_i hf
              obtain ⟨r', hf', hfr⟩ := findKey_ok EO hki hk w he hf
              cases r' with
              | some _ => exact hfr.elim
              | none =>
                obtain ⟨x, hz, hr⟩ := lookZ_ok EO het hx φ w
                refine ⟨_, ?_, hr⟩
                simp [Instr.lookup, hu, hd, getObj, Sem.run, hes, hck, hf', hz]
            · cases hx
          · cases hx
      · cases hx
    · cases hx
  · cases hx

/-! ### maps that are written -/
theorem run_getMap {g : Nat} {es : Array MapEntry} {c : Nat} (hg : w.heap[g]? = some (.map es c)) : (getObj g).run P w = .ok (.map es c) w := by
  simp [getObj, Sem.run, hg]
theorem run_setMap {g : Nat} {es : Array MapEntry} {c : Nat} (hg : w.heap[g]? = some (.map es c)) (o : Obj) : (setObj g o).run P w = .ok () { w with heap := w.heap.setIfInBounds g o } := by
  simp [setObj, Sem.run, hg]

/-- A map is written. -/
theorem Sim.setMap (r : R N φ h w) {b : Nat} {p : Loc} {es es₁ : List (AV × AV × Nat)} {c c₁ : Nat} {m₁ : Array MapEntry} {h' : AHeap} (hb : φ b = some p) (hg : h.get b = some (.map es c)) (hn : h'.next = h.next)
    (hg' : ∀ d, h'.get d = if d = b then some (.map es₁ c₁) else h.get d) (he : EsR φ es₁ m₁.toList) : Sim N φ h w φ h' { w with heap := w.heap.setIfInBounds p.blk (.map m₁ c₁) } := by
  have hlt := (r.dom b p hb).2
  obtain ⟨h0, _⟩ := r.obj b p _ hb hg
  refine Sim.upd r hb hg hn hg' (by simp) (fun k hk => ?_) ⟨rfl, rfl, rfl⟩ ⟨h0, m₁, ?_, he⟩
  · simp only [Array.getElem?_setIfInBounds]; rw [if_neg (by omega)]
  · simp [hlt]

theorem keyAt_spec : ∀ {es : List (AV × AV × Nat)} {m : List MapEntry} {i : Nat} {k : AV}, EsR φ es m → keyAt es i = some k → ∃ e, m[i]? = some e ∧ VR φ k e.key ∧ i < m.length
  | _, _, i, k, .nil, h => by simp [keyAt] at h
  | _, _, 0, k, .cons _ _ _ _ _ _ _ hk _ _, h => by simp only [keyAt] at h; cases h; exact ⟨_, rfl, hk, by simp⟩
  | _, _, i + 1, k, .cons _ _ _ _ _ _ _ _ _ hl, h => by
    obtain ⟨e, h1, h2, h3⟩ := keyAt_spec hl h
    exact ⟨e, by simpa using h1, h2, by simpa using h3⟩

theorem setE_spec : ∀ {es : List (AV × AV × Nat)} {m : List MapEntry} (i : Nat) {k v : AV} {y z : Value}, EsR φ es m → VR φ k y → VR φ v z → EsR φ (setE k v es i) (m.modify i fun e => { e with key := y, val := z })
  | _, _, i, k, v, y, z, .nil, hk, hv => by simp [setE]; exact .nil
  | _, _, 0, k, v, y, z, .cons _ _ _ _ _ _ _ _ _ hl, hk, hv => .cons _ _ _ _ _ _ _ hk hv hl
  | _, _, i + 1, k, v, y, z, .cons _ _ _ _ _ _ _ hk' hv' hl, hk, hv => by
    simp only [setE, List.modify_succ_cons]
    exact .cons _ _ _ _ _ _ _ hk' hv' (setE_spec i hl hk hv)

theorem delE_spec : ∀ {es : List (AV × AV × Nat)} {m : List MapEntry} (i : Nat), EsR φ es m → EsR φ (delE es i) (m.eraseIdx i)
  | _, _, i, .nil => by simp [delE]; exact .nil
  | _, _, 0, .cons _ _ _ _ _ _ _ _ _ hl => hl
  | _, _, i + 1, .cons _ _ _ _ _ _ _ hk' hv' hl => by
    simp only [delE, List.eraseIdx_cons_succ]
    exact .cons _ _ _ _ _ _ _ hk' hv' (delE_spec i hl)

theorem EsR.snoc : ∀ {es : List (AV × AV × Nat)} {m : List MapEntry} {k v : AV} {y z : Value} (b : Nat), EsR φ es m → VR φ k y → VR φ v z → EsR φ (es ++ [(k, v, b)]) (m ++ [⟨y, z, b⟩])
  | _, _, k, v, y, z, b, .nil, hk, hv => .cons _ _ _ _ _ _ _ hk hv .nil
  | _, _, k, v, y, z, b, .cons _ _ _ _ _ _ _ hk' hv' hl, hk, hv => .cons _ _ _ _ _ _ _ hk' hv' (hl.snoc b hk hv)

theorem eqFlat_same {a b : AV} {x y : Value} (hx : VR φ a x) (hy : VR φ b y) (he : eqFlat a b = some true) (n : Nat) : Instr.sameBits n x y = true := by
  unfold eqFlat at he
  split at he
  · cases hx; cases hy
    split at he
    · rename_i hk
      have hk := of_decide_eq_true hk
      subst hk
      simp at he
      cases n <;> simp [Instr.sameBits, he]
    · cases he
  · cases hx; cases hy
    simp at he
    cases n <;> simp [Instr.sameBits, he]
  · cases hx with
    | str u1 _ e1 =>
      cases hy with
      | str u2 _ e2 =>
        subst e1 e2
        rw [eqBytes_eq] at he
        simp at he
        cases n <;> simp [Instr.sameBits, he]
  · cases he

theorem sameFlats_spec : ∀ {l m : List AV} {x y : List Value}, VRs φ l x → VRs φ m y → sameFlats l m = true → x.length = y.length ∧ ∀ n, ((x.zip y).all fun (a, b) => Instr.sameBits n a b) = true
  | _, _, _, _, .nil, .nil, _ => ⟨rfl, fun n => rfl⟩
  | _, _, _, _, .nil, .cons _ _ _ _ _ _, h => by simp [sameFlats] at h
  | _, _, _, _, .cons _ _ _ _ _ _, .nil, h => by simp [sameFlats] at h
  | _, _, _, _, .cons _ _ _ _ ha hl, .cons _ _ _ _ hb hm, h => by
    simp only [sameFlats] at h
    split at h
    · rename_i he
      obtain ⟨h1, h2⟩ := sameFlats_spec hl hm h
      exact ⟨by simp [h1], fun n => by simp only [List.zip_cons_cons, List.all_cons, eqFlat_same ha hb he n, h2 n, Bool.and_self]⟩
    · cases h

theorem sameKey_ok {a b : AV} {x y : Value} (hx : VR φ a x) (hy : VR φ b y) (he : sameKey a b = true) (n : Nat) : Instr.sameBits (n + 1) x y = true := by
  unfold sameKey at he
  split at he
  · cases hx with
    | agg _ c hc =>
      cases hy with
      | agg _ d hd =>
        obtain ⟨h1, h2⟩ := sameFlats_spec hc hd he
        simp only [Instr.sameBits, Bool.and_eq_true, beq_iff_eq]
        exact ⟨by simpa using h1, h2 n⟩
  · simp only [sameFlats] at he
    split at he
    · rename_i h1
      exact eqFlat_same hx hy h1 (n + 1)
    · cases he

theorem mapUpdate_ok (EO : EnvOk P E) (r : R N φ h w) {t : TypeId} {v k u : AV} {y z q : Value} {h' : AHeap} (hv : VR φ v y) (hk : VR φ k z) (hq : VR φ u q) (hx : mapUpdateA E h t v k u = some h') :
    ∃ w', (Instr.mapUpdate t y z q).run P w = .ok () w' ∧ Sim N φ h w φ h' w' := by
  unfold mapUpdateA at hx
  split at hx
  · rename_i kt et rr hm
    obtain ⟨i, hi, hd⟩ := mapT_spec hm
    have hu := EO.under hi w
    cases hv with
    | map _ p hp h0 =>
      split at hx
      · rename_i es clock hko hg
        have hck : ∀ em, (Instr.checkKey em 10000 kt z).run P w = .ok () w := fun em => keyT_ok EO em 9 kt k z hko hk 10000 w (by omega)
        obtain ⟨_, es', hes, he⟩ := r.obj rr p _ hp hg
        obtain ⟨ki, hki⟩ := keyOk_info hko
        split at hx
        · rename_i j a hf
          obtain ⟨r', hf', hfr⟩ := findKey_ok EO hki hk w he hf
          cases r' with
          | none => exact hfr.elim
          | some jx =>
            obtain ⟨j', x'⟩ := jx
            obtain ⟨rfl, hvx⟩ := hfr
            unfold putE at hx
            split at hx
            · rename_i k' hka
              split at hx
              · rename_i hsk
                cases hx
                obtain ⟨e, he1, he2, he3⟩ := keyAt_spec he hka
                have hsb := sameKey_ok he2 hk hsk 9999
                have hkey : ((es'[j]?).map (·.key)).getD z = e.key := by
                  simp at he1; simp [he1]
                have hm' : (es'.modify j fun e => { e with key := z, val := q }).toList = es'.toList.modify j fun e => { e with key := z, val := q } := by simp
                refine ⟨_, ?_, Sim.setMap (m₁ := es'.modify j fun e => { e with key := z, val := q }) r hp hg rfl (fun d => AHeap.get_put _ _ _ _) (by rw [hm']; exact setE_spec j he hk hq)⟩
                simp [Instr.mapUpdate, hu, hd, run_getMap hes, hck, hf', hkey, Instr.keyThatStays, hsb, run_setMap hes]
              · cases hx
            · cases hx
        · rename_i hf
          cases hx
          obtain ⟨r', hf', hfr⟩ := findKey_ok EO hki hk w he hf
          cases r' with
          | some _ => exact hfr.elim
          | none =>
            refine ⟨_, ?_, Sim.setMap (m₁ := es'.push { key := z, val := q, born := clock }) r hp hg rfl (fun d => AHeap.get_put _ _ _ _) (by simpa using he.snoc clock hk hq)⟩
            simp [Instr.mapUpdate, hu, hd, run_getMap hes, hck, hf', run_setMap hes]
        · cases hx
      · cases hx
  · cases hx

theorem delete_ok (EO : EnvOk P E) (r : R N φ h w) {t : TypeId} {ts : Array TypeId} {rt : TypeId} {v k : AV} {y z : Value} {h' : AHeap} (hts : ts[0]? = some t) (hv : VR φ v y) (hk : VR φ k z) (hx : deleteA E h t v k = some h') :
    ∃ w', (Builtin.delete_ ts rt #[y, z]).run P w = .ok (.tuple #[]) w' ∧ Sim N φ h w φ h' w' := by
  unfold deleteA at hx
  split at hx
  · rename_i kt et hm
    obtain ⟨i, hi, hd⟩ := mapT_spec hm
    have hu := EO.under hi w
    cases hv
    split at hx
    · rename_i hko
      cases hx
      have hck : ∀ em, (Instr.checkKey em 10000 kt z).run P w = .ok () w := fun em => keyT_ok EO em 9 kt k z hko hk 10000 w (by omega)
      exact ⟨w, by simp [Builtin.delete_, hts, hu, hd, hck], Sim.refl r⟩
    · cases hx
  · rename_i kt et rr hm
    obtain ⟨i, hi, hd⟩ := mapT_spec hm
    have hu := EO.under hi w
    cases hv with
    | map _ p hp h0 =>
      split at hx
      · rename_i es clock hko hg
        have hck : ∀ em, (Instr.checkKey em 10000 kt z).run P w = .ok () w := fun em => keyT_ok EO em 9 kt k z hko hk 10000 w (by omega)
        obtain ⟨_, es', hes, he⟩ := r.obj rr p _ hp hg
        obtain ⟨ki, hki⟩ := keyOk_info hko
        split at hx
        · rename_i j a hf
          cases hx
          obtain ⟨r', hf', hfr⟩ := findKey_ok EO hki hk w he hf
          cases r' with
          | none => exact hfr.elim
          | some jx =>
            obtain ⟨j', x'⟩ := jx
            obtain ⟨rfl, hvx⟩ := hfr
            have hm' : (es'.eraseIdxIfInBounds j).toList = es'.toList.eraseIdx j := by simp
            refine ⟨_, ?_, Sim.setMap (m₁ := es'.eraseIdxIfInBounds j) r hp hg rfl (fun d => AHeap.get_put _ _ _ _) (by rw [hm']; exact delE_spec j he)⟩
            simp [Builtin.delete_, hts, hu, hd, run_getMap hes, hck, hf', run_setMap hes]
        · rename_i hf
          cases hx
          obtain ⟨r', hf', hfr⟩ := findKey_ok EO hki hk w he hf
          cases r' with
          | some _ => exact hfr.elim
          | none =>
            refine ⟨_, ?_, Sim.setMap (m₁ := es') r hp hg rfl (fun d => by split; (rename_i e; rw [e, hg]); rfl) he⟩
            simp [Builtin.delete_, hts, hu, hd, run_getMap hes, hck, hf', run_setMap hes]
        · cases hx
      · cases hx
  · cases hx

/-! ### iterators -/
theorem range_ok (EO : EnvOk P E) (r : R N φ h w) {t : TypeId} {v : AV} {y : Value} {x : OpR} (hv : VR φ v y) (hx : rangeA E h t v = some x) : OpOk P N φ h w (vSem (Instr.range t y)) x := by
  unfold rangeA at hx
  split at hx
  · rename_i i hi
    have hu := EO.under hi w
    have key : ∀ (o : AObj) (o' : Obj), ObjR N (φ.put h.next ⟨w.heap.size, 0, 0, 0⟩) { w with heap := w.heap.push o' } ⟨w.heap.size, 0, 0, 0⟩ o →
        Sim N φ h w (φ.put h.next ⟨w.heap.size, 0, 0, 0⟩) (h.new o) { w with heap := w.heap.push o' } := fun o o' ho =>
      Sim.alloc (room := 0) (esz := 0) r rfl (fun d => AHeap.get_new _ _ _) (by simp) (fun k hk => World.heap_push_old w _ k hk) ⟨rfl, rfl, rfl⟩ ho
    split at hx
    · rename_i s hd
      cases hx
      cases hv with
      | str s' _ hs =>
        refine OpOk.made (x := .pointer (some ⟨w.heap.size, 0, none⟩)) ?_ (.ptr _ _ _ (Phi.put_same _ _ _)) (key (.strIter s 0) (.stringIter s' 0) ⟨rfl, s', by simp, hs⟩)
        simp [Instr.range, hu, hd]
    · rename_i kt et hd
      cases hx; cases hv
      refine OpOk.made (x := .pointer (some ⟨w.heap.size, 0, none⟩)) ?_ (.ptr _ _ _ (Phi.put_same _ _ _)) (key (.mapIter none 0 [] 0) (.mapIter none 0 #[] 0) ⟨rfl, none, by simp, rfl⟩)
      simp [Instr.range, hu, hd]
    · rename_i kt et m hd
      cases hv with
      | map _ p hp h0 =>
        split at hx
        · rename_i es clock hg
          cases hx
          obtain ⟨_, es', hes, he⟩ := r.obj m p _ hp hg
          refine OpOk.made (x := .pointer (some ⟨w.heap.size, 0, none⟩)) ?_ (.ptr _ _ _ (Phi.put_same _ _ _))
            (key (.mapIter (some m) clock [] clock) (.mapIter (some p.blk) clock #[] clock) ⟨rfl, some p.blk, by simp, p, Phi.le_put r _ _ _ hp, rfl⟩)
          simp [Instr.range, hu, hd, run_getMap hes]
        · cases hx
    · cases hx
  · cases hx
end
end Go.Abs
