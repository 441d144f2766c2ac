/- The abstract machine: externs, both machines; no conditions. -/
import Derived.Test.YtlidmkmjemoaeaaGreatDoorAbsE13
import Derived.Laws.LoneSync
import Derived.KernelRfl
set_option linter.unusedVariables false
set_option linter.unusedSimpArgs false
set_option linter.unusedSectionVars false
namespace Go.Abs
variable [Opq]
open Go

/-- What is asked of the laws of externs. -/
structure ExtFn (P : Program) (f : FuncId) (fn : Func) (g : Array Value → Sem Value) : Prop where
  hf : P.funcs[f]? = some fn
  hname : (fn.name == "runtime.NumGoroutine") = false
  hb : fn.body.isNone = true
  hn : Extern.findNext fn = none
  he : Extern.find fn = some g

theorem extFn {P : Program} {f : FuncId} {fn : Func} {n : String} {g : Array Value → Sem Value} (hf : P.funcs[f]? = some fn) (hb : fn.body = none) (ho : fn.origin = "") (hn : fn.name = n)
    (h1 : (n == "runtime.NumGoroutine") = false) (h2 : Extern.allNextRows.lookup n = none) (h3 : Extern.allNextRows.lookup "" = none)
    (h4 : Extern.allGenericRows.lookup n = none) (h5 : Extern.allTypedRows.lookup n = none) (h6 : Extern.allRows.lookup n = some g) : ExtFn P f fn g where
  hf := hf
  hname := by rw [hn]; exact h1
  hb := by rw [hb]; rfl
  hn := by
    unfold Extern.findNext
    simp only [hn, ho, h2, h3]
    rfl
  he := by
    unfold Extern.find
    simp only [hn, h4, h5, h6]
    rfl

theorem ext_disable : Extern.allRows.lookup "internal/race.Disable" = some (fun _ => do mark .disable; pure Extern.Race.none_) := by kernel_rfl
theorem ext_cas : Extern.allRows.lookup "sync/atomic.CompareAndSwapInt32" = some (Extern.Atomic.casT (.int .i32)) := by kernel_rfl
theorem ext_enable : Extern.allRows.lookup "internal/race.Enable" = some (fun _ => do mark .enable; pure Extern.Race.none_) := by kernel_rfl
theorem ext_acquire : Extern.allRows.lookup "internal/race.Acquire" = some (Extern.Race.marked .acquire) := by kernel_rfl
theorem ext_merge : Extern.allRows.lookup "internal/race.ReleaseMerge" = some (Extern.Race.marked .releaseMerge) := by kernel_rfl
theorem ext_add : Extern.allRows.lookup "sync/atomic.AddInt32" = some (Extern.Atomic.update (Op.intArith .add) .i32 true) := by kernel_rfl

/-- What each of them is. -/
def ExtSem (P : Program) (f : FuncId) : Ext → Prop
  | .mark0 => ∃ fn m, ExtFn P f fn (fun _ => do mark m; pure Extern.Race.none_)
  | .mark1 => ∃ fn m, ExtFn P f fn (Extern.Race.marked m)
  | .cas k => ∃ fn, ExtFn P f fn (Extern.Atomic.casT (.int k))
  | .add k => ∃ fn, ExtFn P f fn (Extern.Atomic.update (Op.intArith .add) k true)

theorem extSem {P : Program} {E : Env} (EO : EnvOk P E) {f : FuncId} {k : Ext} (h : E.ex.get f = some k) : ExtSem P f k := by
  obtain ⟨fn, hf, hb, ho, hn⟩ := EO.ex f k h
  unfold extNamed at hn
  split at hn
  · cases hn
    exact ⟨fn, .disable, extFn hf hb ho (by assumption) (by decide) (by kernel_rfl) (by kernel_rfl) (by kernel_rfl) (by kernel_rfl) ext_disable⟩
  · split at hn
    · cases hn
      exact ⟨fn, .enable, extFn hf hb ho (by assumption) (by decide) (by kernel_rfl) (by kernel_rfl) (by kernel_rfl) (by kernel_rfl) ext_enable⟩
    · split at hn
      · cases hn
        exact ⟨fn, .acquire, extFn hf hb ho (by assumption) (by decide) (by kernel_rfl) (by kernel_rfl) (by kernel_rfl) (by kernel_rfl) ext_acquire⟩
      · split at hn
        · cases hn
          exact ⟨fn, .releaseMerge, extFn hf hb ho (by assumption) (by decide) (by kernel_rfl) (by kernel_rfl) (by kernel_rfl) (by kernel_rfl) ext_merge⟩
        · split at hn
          · cases hn
            exact ⟨fn, extFn hf hb ho (by assumption) (by decide) (by kernel_rfl) (by kernel_rfl) (by kernel_rfl) (by kernel_rfl) ext_cas⟩
          · split at hn
            · cases hn
              exact ⟨fn, extFn hf hb ho (by assumption) (by decide) (by kernel_rfl) (by kernel_rfl) (by kernel_rfl) (by kernel_rfl) ext_add⟩
            · cases hn

section
variable {P : Program} {E : Env} {N : FuncId → Nat} {φ : Phi} {h : AHeap} {w : World}

theorem VRs.one {l : List AV} {v : AV} {L : Array Value} (hl : VRs φ l L.toList) (e : l = [v]) : ∃ x, L = #[x] ∧ VR φ v x := by
  subst e
  generalize hg : L.toList = z at hl
  cases hl with
  | cons _ y _ m h1 h2 =>
    cases h2
    exact ⟨y, Array.toList_inj.1 hg, h1⟩

/-- One cell is written. -/
theorem store_one (P : Program) (r : R N φ h w) {b o : Nat} {v : AV} {x : Value} {p : Loc} {h' : AHeap} (hb : φ b = some p) (hs : h.store b o [v] = some h') (hv : VR φ v x) (hone : x.oneCell' = true) {y : Value} (hc : w.cell? ⟨p.blk, p.base + o, none⟩ = some y) :
    w.frozen? ⟨p.blk, p.base + o, none⟩ = false ∧ Sim N φ h w φ h' (w.setCell ⟨p.blk, p.base + o, none⟩ x) := by
  obtain ⟨w', hw, sim⟩ := store_sim (P := P) r hb hs (.cons _ _ _ _ hv .nil)
  have ha : (⟨p.blk, p.base + o, none⟩ : Addr).add 0 = ⟨p.blk, p.base + o, none⟩ := rfl
  simp only [storeCells, Sem.run_bind, ha, run_store P w _ x .plain hone, hc] at hw
  cases hz : w.frozen? ⟨p.blk, p.base + o, none⟩ with
  | true => rw [hz] at hw; simp at hw
  | false =>
    rw [hz] at hw
    simp at hw
    subst hw
    exact ⟨rfl, sim⟩

/-- An extern: what it does. -/
theorem ext_ok (EO : EnvOk P E) (r : R N φ h w) {f : FuncId} {k : Ext} (hk : E.ex.get f = some k) {as : List AV} {L : Array Value} (hl : VRs φ as L.toList) {x : OpR} (hx : extA k as h = some x) :
    OpOk P N φ h w (callFunc f L) x := by
  have hs := extSem EO hk
  unfold extA at hx
  split at hx
  · cases hx
    obtain ⟨fn, m, X⟩ := hs
    have : L = #[] := by
      cases hz : L.toList with
      | nil => exact Array.toList_inj.1 hz
      | cons a l => rw [hz] at hl; cases hl
    subst this
    exact ⟨.tuple #[], run_call_mark0 X.hf X.hname X.hb X.hn m X.he w, .tuple _ _ .nil⟩
  · cases hx
    obtain ⟨fn, m, X⟩ := hs
    obtain ⟨y, rfl, hy⟩ := hl.one rfl
    cases hy
    exact ⟨.tuple #[], run_call_marked X.hf X.hname X.hb X.hn m X.he _ w, .tuple _ _ .nil⟩
  · rename_i k b o i x j y
    split at hx
    · rename_i m z hi hj hld
      obtain ⟨fn, X⟩ := hs
      have hi : k = i := by simpa using hi
      have hj : k = j := by simpa using hj
      subst hi; subst hj
      obtain ⟨q0, q1, q2, rfl, h0, h1, h2⟩ : ∃ q0 q1 q2, L = #[q0, q1, q2] ∧ VR φ (.ptr b o) q0 ∧ VR φ (.int k x) q1 ∧ VR φ (.int k y) q2 := by
        generalize hg : L.toList = zl at hl
        cases hl with
        | cons _ y0 _ m1 e0 l1 => cases l1 with
          | cons _ y1 _ m2 e1 l2 => cases l2 with
            | cons _ y2 _ m3 e2 l3 => cases l3; exact ⟨_, _, _, Array.toList_inj.1 hg, e0, e1, e2⟩
      cases h1; cases h2
      cases h0 with
      | ptr _ _ p hp =>
        obtain ⟨ms, hm, hn, hc⟩ := load_cells r hp hld
        obtain ⟨u, rfl⟩ : ∃ u, ms = [u] := List.length_eq_one_iff.1 hn
        cases hm with
        | cons _ _ _ _ hu _ =>
          cases hu
          have hcell := hc 0 _ rfl
          rw [Nat.add_zero] at hcell
          split at hx
          · rename_i hk1 hz
            have hk1 : k = m := by simpa using hk1
            have hz : z = x := by simpa using hz
            subst hk1; subst hz
            split at hx
            · rename_i h' hst
              cases hx
              obtain ⟨hfz, sim⟩ := store_one P r hp hst (.int k y) rfl hcell
              exact ⟨.bool true, .value (.bool true), φ, _, run_call_cas_hit X.hf X.hname X.hb X.hn k X.he hcell hfz, .inl rfl, .bool _, sim⟩
            · cases hx
          · rename_i hk1 hz
            have hk1 : k = m := by simpa using hk1
            have hz : ¬ z = x := by simpa using hz
            subst hk1
            split at hx
            · rename_i h' hst
              cases hx
              obtain ⟨hfz, _⟩ := store_one P r hp hst (.int k z) rfl hcell
              exact ⟨.bool false, run_call_cas_miss X.hf X.hname X.hb X.hn k X.he hcell hfz hz, .bool _⟩
            · cases hx
          · cases hx
    · cases hx
  · rename_i k b o j y
    split at hx
    · rename_i m z hj hld
      obtain ⟨fn, X⟩ := hs
      have hj : k = j := by simpa using hj
      subst hj
      obtain ⟨q0, q1, rfl, h0, h1⟩ : ∃ q0 q1, L = #[q0, q1] ∧ VR φ (.ptr b o) q0 ∧ VR φ (.int k y) q1 := by
        generalize hg : L.toList = zl at hl
        cases hl with
        | cons _ y0 _ m1 e0 l1 => cases l1 with
          | cons _ y1 _ m2 e1 l2 => cases l2; exact ⟨_, _, Array.toList_inj.1 hg, e0, e1⟩
      cases h1
      cases h0 with
      | ptr _ _ p hp =>
        obtain ⟨ms, hm, hn, hc⟩ := load_cells r hp hld
        obtain ⟨u, rfl⟩ : ∃ u, ms = [u] := List.length_eq_one_iff.1 hn
        cases hm with
        | cons _ _ _ _ hu _ =>
          cases hu
          have hcell := hc 0 _ rfl
          rw [Nat.add_zero] at hcell
          split at hx
          · rename_i hk1
            have hk1 : k = m := by simpa using hk1
            subst hk1
            rw [fInt_eq] at hx
            split at hx
            · rename_i h' hst
              cases hx
              obtain ⟨hfz, sim⟩ := store_one P r hp hst (.int k _) rfl hcell
              exact ⟨.int k (k.wrap (z + y)), .value (.int k (k.wrap (z + y))), φ, _, run_call_add X.hf X.hname X.hb X.hn k X.he hcell hfz (by simp [Op.intArith]), .inl rfl, .int _ _, sim⟩
            · cases hx
          · cases hx
    · cases hx
  · cases hx
end
end Go.Abs
