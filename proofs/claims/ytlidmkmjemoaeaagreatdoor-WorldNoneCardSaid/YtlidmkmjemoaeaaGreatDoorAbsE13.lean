/- The abstract machine: copy, len, cap, min, max, clear, calls; every operation, both machines; no conditions. -/
import Derived.Test.YtlidmkmjemoaeaaGreatDoorAbsE12
set_option linter.unusedVariables false
set_option linter.unusedSimpArgs false
set_option linter.unusedSectionVars false
namespace Go.Abs
variable [Opq]
open Go
section
variable {P : Program} {E : Env} {N : FuncId → Nat} {φ : Phi} {h : AHeap} {w : World}

theorem firstA_zero {z : Nat} {v : AV} {l : List AV} (hf : firstA h z 0 v = some l) : l = [] := by
  unfold firstA at hf
  split at hf
  · cases hf; rfl
  · cases hf; rfl
  · unfold AHeap.load at hf
    split at hf
    · have := (getCells_spec _ _ _ _ hf).1
      exact List.eq_nil_of_length_eq_zero (by simpa using this)
    · cases hf
  · split at hf <;> cases hf
    rfl
  · cases hf

theorem copy_ok (EO : EnvOk P E) (r : R N φ h w) {t : TypeId} {ts : Array TypeId} {rt : TypeId} {v u : AV} {y q : Value} {x : OpR} (hts : ts[0]? = some t)
    (hv : VR φ v y) (hu : VR φ u q) (hx : copyA E h t v u = some x) : OpOk P N φ h w (vSem (Builtin.copy_ ts rt #[y, q])) x := by
  unfold copyA at hx
  split at hx
  · rename_i e ty he
    obtain ⟨i, hi, hd, hy⟩ := elemA_spec he
    have hun : (underlying t).run P w = .ok (.slice e) w := by rw [← hd]; exact EO.under hi w
    have hsz := EO.size hy w
    split at hx
    · rename_i m n hm hn
      have hlen := lenA_ok (P := P) (w := w) hu hn
      simp only at hx
      split at hx
      · rename_i l hf
        obtain ⟨mn, hmn, hmr⟩ := firstA_ok (P := P) r hu hf
        split at hx
        · cases hx
          cases hv
          have hm0 : m = 0 := by simp [lenA] at hm; omega
          subst hm0
          refine OpOk.pure (x := .int .i64 0) ?_ (.int _ _)
          simp [Builtin.copy_, hts, hun, hlen, hsz] at hmn ⊢
          simp [hmn, goInt]
        · cases hx
          cases hv with
          | slice0 b o c p hp _ _ =>
            have hm0 : m = 0 := by simp [lenA] at hm; omega
            subst hm0
            have hl0 : l = [] := firstA_zero (by simpa using hf)
            subst hl0
            have hm0 : mn = #[] := by
              have := hmr.length
              exact Array.eq_empty_of_size_eq_zero (by simpa using this.symm)
            subst hm0
            refine OpOk.pure (x := .int .i64 0) ?_ (.int _ _)
            simp [Builtin.copy_, hts, hun, hlen, hsz] at hmn ⊢
            simp [hmn, goInt, storeCells]
        · rename_i b o len c
          split at hx
          · rename_i h' hst
            rw [fNat_eq] at hx
            cases hx
            simp only [lenA, Option.some.injEq] at hm
            subst hm
            cases hv with
            | sliceX _ _ _ _ p hp =>
              obtain ⟨w', hw, hsim⟩ := store_sim (P := P) r hp hst hmr
              refine OpOk.made (x := .int .i64 ((Nat.min n len : Nat) : Int)) ?_ (.int _ _) hsim
              simp only [Builtin.copy_, hts, List.getElem?_toArray, List.getElem?_cons_zero, List.getElem?_cons_succ, Sem.run_bind, hun, hlen, hsz, Result.andThen_ok, hmn, hw, Sem.run_pure, goInt]
            | sliceU _ _ _ _ p hp _ _ =>
              obtain ⟨w', hw, hsim⟩ := store_sim (P := P) r hp hst hmr
              refine OpOk.made (x := .int .i64 ((Nat.min n len : Nat) : Int)) ?_ (.int _ _) hsim
              simp only [Builtin.copy_, hts, List.getElem?_toArray, List.getElem?_cons_zero, List.getElem?_cons_succ, Sem.run_bind, hun, hlen, hsz, Result.andThen_ok, hmn, hw, Sem.run_pure, goInt]
          · cases hx
        · cases hx
      · cases hx
    · cases hx
  · cases hx

theorem len_ok (EO : EnvOk P E) (r : R N φ h w) {t : TypeId} {ts : Array TypeId} {rt : TypeId} {v u : AV} {y : Value} (hts : ts[0]? = some t)
    (hv : VR φ v y) (hx : lenB E h t v = some u) : ∃ x, (Builtin.len_ ts rt #[y]).run P w = .ok x w ∧ VR φ u x := by
  unfold lenB at hx
  split at hx
  · rename_i i hi
    have hun := EO.under hi w
    split at hx
    · rename_i s hd
      rw [fNat_eq] at hx; cases hx
      cases hv with
      | str s' _ hs =>
        refine ⟨.int .i64 s'.size, ?_, by rw [← hs]; simpa using VR.int _ _⟩
        simp [Builtin.len_, hts, hun, hd, goInt]
    · rename_i n e hd
      cases hx
      exact ⟨.int .i64 n, by simp [Builtin.len_, hts, hun, hd, goInt], .int _ _⟩
    · rename_i e hd
      cases hx; cases hv
      exact ⟨.int .i64 0, by simp [Builtin.len_, hts, hun, hd, goInt], .int _ _⟩
    · rename_i e b hd
      cases hx; cases hv
      exact ⟨.int .i64 0, by simp [Builtin.len_, hts, hun, hd, goInt], .int _ _⟩
    · rename_i e b o n c hd
      cases hx
      cases hv <;> exact ⟨.int .i64 n, by simp [Builtin.len_, hts, hun, hd, goInt], .int _ _⟩
    · rename_i k e hd
      cases hx; cases hv
      exact ⟨.int .i64 0, by simp [Builtin.len_, hts, hun, hd, goInt], .int _ _⟩
    · rename_i k e rr hd
      cases hv with
      | map _ p hp h0 =>
        split at hx
        · rename_i es clock hg
          rw [fNat_eq] at hx; cases hx
          obtain ⟨_, es', hes, he⟩ := r.obj rr p _ hp hg
          refine ⟨.int .i64 es'.size, ?_, ?_⟩
          · have hobj : (getObj p.blk).run P w = .ok (.map es' clock) w := by simp [getObj, Sem.run, hes]
            simp [Builtin.len_, hts, hun, hd, hobj, goInt]
          · have : es.length = es'.size := by
              have h2 : ∀ {l : List (AV × AV × Nat)} {m : List MapEntry}, EsR φ l m → l.length = m.length := by
                intro l m h
                induction h with
                | nil => rfl
                | cons _ _ _ _ _ _ _ _ _ _ ih => simp [ih]
              simpa using h2 he
            rw [this]; exact .int _ _
        · cases hx
    · cases hx
  · cases hx

theorem cap_ok (EO : EnvOk P E) {t : TypeId} {ts : Array TypeId} {rt : TypeId} {v : AV} {y : Value} {x : OpR} (hts : ts[0]? = some t)
    (hv : VR φ v y) (hx : capA E t v = some x) : OpOk P N φ h w (vSem (Builtin.cap_ ts rt #[y])) x := by
  unfold capA at hx
  split at hx
  · rename_i i hi
    have hun := EO.under hi w
    split at hx
    · rename_i e hd
      cases hx; cases hv
      exact OpOk.pure (x := .int .i64 0) (by simp [Builtin.cap_, hts, hun, hd, goInt]) (.int _ _)
    · rename_i e b o n c hd
      cases hx; cases hv
      exact OpOk.pure (x := .int .i64 c) (by simp [Builtin.cap_, hts, hun, hd, goInt]) (.int _ _)
    · cases hx
  · cases hx

theorem mmGo_ok (mx : Bool) (k : IntKind) : ∀ {l : List AV} {m : List Value} (a : Int) {u : AV}, VRs φ l m → mmGo mx k a l = some u →
    ∃ b, u = .int k b ∧ (m.foldlM (if mx then Builtin.max2 else Builtin.min2) (.int k a)).run P w = .ok (.int k b) w
  | _, _, a, u, .nil, h => by
    simp only [mmGo] at h
    cases h
    exact ⟨a, rfl, by simp⟩
  | _, _, a, u, .cons v x l m hv hl, h => by
    unfold mmGo at h
    split at h
    · rename_i heq; cases heq
    · rename_i j b l' heq
      cases heq
      cases hv
      split at h
      · rename_i hk
        have hk : k = j := by simpa using hk
        subst hk
        cases mx with
        | true =>
          obtain ⟨c, hc, hr⟩ := mmGo_ok true k _ hl h
          refine ⟨c, hc, ?_⟩
          simp only [if_true, List.foldlM_cons] at hr ⊢
          simp only [Builtin.max2, pure_bind]
          exact hr
        | false =>
          obtain ⟨c, hc, hr⟩ := mmGo_ok false k _ hl h
          refine ⟨c, hc, ?_⟩
          simp only [Bool.false_eq_true, if_false, List.foldlM_cons] at hr ⊢
          simp only [Builtin.min2, pure_bind]
          exact hr
      · cases h
    · cases h

theorem clear_ok (EO : EnvOk P E) (r : R N φ h w) {t : TypeId} {ts : Array TypeId} {rt : TypeId} {v : AV} {y : Value} {x : OpR} (hts : ts[0]? = some t)
    (hv : VR φ v y) (hx : clearA E h t v = some x) : OpOk P N φ h w (vSem (Builtin.clear_ ts rt #[y])) x := by
  unfold clearA at hx
  split at hx
  · rename_i e ty he
    obtain ⟨i, hi, hd, hy⟩ := elemA_spec he
    have hun : (underlying t).run P w = .ok (.slice e) w := by rw [← hd]; exact EO.under hi w
    split at hx
    · cases hx; cases hv
      exact OpOk.pure (x := .tuple #[]) (by simp [Builtin.clear_, hts, hun]) (.tuple _ _ .nil)
    · cases hx; cases hv
      exact OpOk.pure (x := .tuple #[]) (by simp [Builtin.clear_, hts, hun]) (.tuple _ _ .nil)
    · cases hx
      cases hv <;> exact OpOk.pure (x := .tuple #[]) (by simp [Builtin.clear_, hts, hun]) (.tuple _ _ .nil)
    · rename_i b o n c
      split at hx
      · rename_i z hz
        split at hx
        · rename_i h' h1 h2 hst
          cases hx
          have h1 : z.length = ty.size := by simpa using h1
          have h2 : 1 ≤ ty.size := by simpa using h2
          obtain ⟨zv, hzv, hzo⟩ := EO.zero hy w hz
          obtain ⟨hzc, _, _⟩ := zeroOf_VR (φ := φ) hzo
          have hl := hzc.length
          simp at hl
          have hzs := zeros_VRs hzc (by omega) (n + 1)
          rw [hl] at hzs
          cases hv with
          | sliceX _ _ _ _ p hp =>
            obtain ⟨w', hw, hsim⟩ := store_sim (P := P) r hp hst hzs
            refine OpOk.made (x := .tuple #[]) ?_ (.tuple _ _ .nil) hsim
            simp only [Builtin.clear_, hts, List.getElem?_toArray, List.getElem?_cons_zero, Sem.run_bind, hun, Result.andThen_ok, hzv, Builtin.zeroCells, hw, Sem.run_pure]
          | sliceU _ _ _ _ p hp _ _ =>
            obtain ⟨w', hw, hsim⟩ := store_sim (P := P) r hp hst hzs
            refine OpOk.made (x := .tuple #[]) ?_ (.tuple _ _ .nil) hsim
            simp only [Builtin.clear_, hts, List.getElem?_toArray, List.getElem?_cons_zero, Sem.run_bind, hun, Result.andThen_ok, hzv, Builtin.zeroCells, hw, Sem.run_pure]
        · cases hx
      · cases hx
    · cases hx
  · cases hx
end
end Go.Abs
