/- The abstract machine: assertions, maps, iterators, both machines; no conditions. -/
import Derived.Test.YtlidmkmjemoaeaaGreatDoorAbsE8
set_option linter.unusedVariables false
set_option linter.unusedSimpArgs false
set_option linter.unusedSectionVars false
namespace Go.Abs
variable [Opq]
open Go
section
variable {P : Program} {E : Env} {N : FuncId → Nat} {φ : Phi} {h : AHeap} {w : World}

theorem zeroV_ok (EO : EnvOk P E) {t : TypeId} {i : TInf} (hi : E.ti.get t = some i) {v : AV} (hz : zeroV i = some v) (φ : Phi) (w : World) : ∃ x, (zeroValue t).run P w = .ok x w ∧ VR φ v x := by
  unfold zeroV at hz
  split at hz
  · rename_i z hz'
    obtain ⟨x, hx, hzv⟩ := EO.zero hi w hz'
    obtain ⟨_, _, h1, h2⟩ := zeroOf_VR (φ := φ) hzv
    split at hz
    · rename_i ha; cases hz; exact ⟨x, hx, h1 ha⟩
    · rename_i ha
      split at hz
      · cases hz
        obtain ⟨a, e, hv⟩ := h2 ha
        cases e; exact ⟨x, hx, hv⟩
      · cases hz
  · cases hz

theorem okV_VR {ok b : Bool} {v : AV} {x : Value} (hv : VR φ v x) : VR φ (okV ok v b) (if ok then .tuple #[x, .bool b] else x) := by
  cases ok
  · exact hv
  · exact .tuple _ _ (.cons _ _ _ _ hv (.cons _ _ _ _ (.bool _) .nil))

theorem lookZ_ok (EO : EnvOk P E) {t : TypeId} {i : TInf} (hi : E.ti.get t = some i) {ok : Bool} {v : AV} (hz : lookZ ok i = some v) (φ : Phi) (w : World) :
    ∃ x, (zeroValue t).run P w = .ok x w ∧ VR φ v (if ok then .tuple #[x, .bool false] else x) := by
  unfold lookZ at hz
  split at hz
  · rename_i u hu
    cases hz
    obtain ⟨x, hx, hv⟩ := zeroV_ok EO hi hu φ w
    exact ⟨x, hx, okV_VR hv⟩
  · cases hz

theorem typeAssert_ok (EO : EnvOk P E) {xt t : TypeId} {ok : Bool} {v : AV} {y : Value} {x : OpR} (hv : VR φ v y) (hx : typeAssertA E v t ok = some x) : OpOk P N φ h w (vSem (Instr.typeAssert y xt t ok)) x := by
  unfold typeAssertA at hx
  split at hx
  · rename_i i hi
    have hu := EO.under hi w
    split at hx
    · cases hx
    · rename_i hne
      have hnd : ∀ ms, i.desc ≠ .interface ms := fun ms e => hne ms e
      split at hx
      · rename_i u a
        cases hv with
        | iface _ _ z hz =>
          split at hx
          · rename_i hut
            have hut := Nat.eq_of_beq_eq_true hut
            subst hut
            cases hx
            refine OpOk.pure (x := if ok then .tuple #[z, .bool true] else z) ?_ (okV_VR hz)
            cases hd : i.desc <;> first | exact absurd hd (hnd _) | (rw [hd] at hu; cases ok <;> simp [Instr.typeAssert, hu])
          · rename_i hut
            have hut : ¬ u = t := by intro e; subst e; simp at hut
            split at hx
            · rename_i z' hz'
              cases hx
              obtain ⟨q, hq, hr⟩ := lookZ_ok EO hi hz' φ w
              refine OpOk.pure (x := .tuple #[q, .bool false]) ?_ hr
              cases hd : i.desc <;> first | exact absurd hd (hnd _) | (rw [hd] at hu; simp [Instr.typeAssert, hu, hut, hq])
            · cases hx
      · cases hv
        split at hx
        · rename_i z' hz'
          cases hx
          obtain ⟨q, hq, hr⟩ := lookZ_ok EO hi hz' φ w
          refine OpOk.pure (x := .tuple #[q, .bool false]) ?_ hr
          cases hd : i.desc <;> first | exact absurd hd (hnd _) | (rw [hd] at hu; simp [Instr.typeAssert, hu, hq])
        · cases hx
      · cases hx
  · cases hx

/-! ### keys -/
theorem keyT_ok (EO : EnvOk P E) (em : Bool) : ∀ (n : Nat) (t : TypeId) (k : AV) (y : Value), keyT E n t k = true → VR φ k y → ∀ (m : Nat) (w : World), n ≤ m → (Instr.checkKey em m t y).run P w = .ok () w
  | 0, t, k, y, hk, hv, m, w, hm => by simp [keyT] at hk
  | n + 1, t, k, y, hk, hv, m, w, hm => by
    obtain ⟨m, rfl⟩ : ∃ m', m = m' + 1 := ⟨m - 1, by omega⟩
    simp only [keyT] at hk
    split at hk
    · rename_i i hi
      have hu := EO.under hi w
      split at hk
      · rename_i hd; cases hv; simp [Instr.checkKey, hu, hd]
      · rename_i hd; cases hv; simp [Instr.checkKey, hu, hd]
      · rename_i hd; cases hv; simp [Instr.checkKey, hu, hd]
      · rename_i fs l hd
        cases hv with
        | agg _ c hc =>
          simp only [Instr.checkKey, Sem.run_bind, hu, hd, Result.andThen_ok]
          rw [← Array.forIn_toList]
          have key : ∀ (l' : List Field), keyF E (keyT E n) l l' = true → ∀ w, (forIn l' PUnit.unit fun (f : Field) (_ : PUnit) => (do
              if f.name ≠ "_" then Instr.checkKey em m f.type (← part f.type c f.offset)
              pure (ForInStep.yield PUnit.unit) : Sem (ForInStep PUnit))).run P w = .ok PUnit.unit w := by
            intro l'
            induction l' with
            | nil => intro _ w; simp
            | cons f l' ih =>
              intro hkf w
              simp only [keyF] at hkf
              split at hkf
              · rename_i a hname ha
                split at hkf
                · rename_i hkt
                  obtain ⟨x, hx, hr⟩ := partT_ok EO hc ha w
                  have hn : f.name ≠ "_" := by
                    intro e; rw [e] at hname; exact absurd hname (by decide)
                  have h1 := keyT_ok EO em n f.type a x hkt hr m w (by omega)
                  have h2 := ih hkf w
                  simp only [List.forIn_cons, Sem.run_bind, hn, if_true, hx, Result.andThen_ok, h1, Sem.run_pure, ne_eq, not_false_eq_true]
                  exact h2
                · cases hkf
              · cases hkf
          have := key fs.toList hk w
          simp only [this, Result.andThen_ok]
          rfl
      · cases hk
    · cases hk
end
end Go.Abs
