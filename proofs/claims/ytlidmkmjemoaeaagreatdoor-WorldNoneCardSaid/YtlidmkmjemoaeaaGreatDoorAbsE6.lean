/- The abstract machine: '==', arithmetic, conversions, assertions, both machines; no conditions. -/
import Derived.Test.YtlidmkmjemoaeaaGreatDoorAbsE5
import Derived.Laws.StructEq
set_option linter.unusedVariables false
set_option linter.unusedSimpArgs false
set_option linter.unusedSectionVars false
namespace Go.Abs
variable [Opq]
open Go
section
variable {P : Program} {E : Env} {N : FuncId → Nat} {φ : Phi} {h : AHeap} {w : World}

theorem eqBytes_iff : ∀ (x y : List UInt8), eqBytes x y = true ↔ x = y
  | [], [] => by simp [eqBytes]
  | [], _ :: _ => by simp [eqBytes]
  | _ :: _, [] => by simp [eqBytes]
  | a :: x, b :: y => by
    simp only [eqBytes]
    split
    · rename_i e
      have : a = b := UInt8.toNat_inj.1 (Nat.eq_of_beq_eq_true e)
      subst this
      simp [eqBytes_iff x y]
    · rename_i e
      have : a ≠ b := by
        intro h; subst h; simp at e
      simp [this]

theorem eqBytes_eq (a b : ByteArray) : eqBytes a.data.toList b.data.toList = (a == b) := by
  rw [Bool.eq_iff_iff, eqBytes_iff, beq_toListBytes, ByteArray.toList_eq, ByteArray.toList_eq]
  simp

theorem partT_ok (EO : EnvOk P E) {t : TypeId} {cs : List AV} {c : Array Value} {off : Nat} {v : AV} (hc : VRs φ cs c.toList) (hp : partT E t cs off = some v) (w : World) :
    ∃ x, (part t c off).run P w = .ok x w ∧ VR φ v x := by
  unfold partT at hp
  split at hp
  · rename_i y hy
    exact part_ok EO hy hc hp
  · cases hp

theorem fieldsOf_eq {t : TypeId} {fs : Array Field} (h : P.underlying t = some (.struct fs)) : P.fieldsOf t = fs := by
  simp [Program.fieldsOf, h]

theorem eqFs_ok (EO : EnvOk P E) (d : Nat) (g : TypeId → AV → AV → Option Bool)
    (hg : ∀ (t : TypeId) (a b : AV) (x y : Value) (r : Bool), VR φ a x → VR φ b y → g t a b = some r → ∀ w, (Op.equalIn d t x y).run P w = .ok r w) {xs ys : List AV} {c e : Array Value} (hx : VRs φ xs c.toList) (hy : VRs φ ys e.toList) :
    ∀ (l : List Field) (r : Bool), eqFs E g xs ys l = some r → ∀ w, (Op.eqFields d c e l).run P w = .ok r w
  | [], r, h, w => by simp only [eqFs] at h; cases h; rfl
  | f :: l, r, h, w => by
    simp only [eqFs] at h
    split at h
    · rename_i a b hname ha hb
      obtain ⟨x, hxr, hxv⟩ := partT_ok EO hx ha w
      obtain ⟨y, hyr, hyv⟩ := partT_ok EO hy hb w
      have hn : f.name ≠ "_" := by
        intro e; rw [e] at hname; exact absurd hname (by decide)
      unfold eqNext at h
      split at h
      · rename_i hgt
        have := hg f.type a b x y true hxv hyv hgt w
        simp [Op.eqFields, hn, hxr, hyr, this, eqFs_ok EO d g hg hx hy l r h w]
      · rename_i hgf
        cases h
        have := hg f.type a b x y false hxv hyv hgf w
        simp [Op.eqFields, hn, hxr, hyr, this]
      · cases h
    · cases h

/-- The loop over an array's elements. -/
def eqElems (d : Nat) (xs ys : Array Value) (e : TypeId) (z : Nat) (i : Nat) : Nat → Sem Bool
  | 0 => pure true
  | n + 1 => do
    let a ← part e xs (i * z)
    let b ← part e ys (i * z)
    let r ← Op.equalIn d e a b
    if (!r) = true then pure false else eqElems d xs ys e z (i + 1) n

theorem eqEs_ok (EO : EnvOk P E) (d : Nat) (g : TypeId → AV → AV → Option Bool)
    (hg : ∀ (t : TypeId) (a b : AV) (x y : Value) (r : Bool), VR φ a x → VR φ b y → g t a b = some r → ∀ w, (Op.equalIn d t x y).run P w = .ok r w) {xs ys : List AV} {c e : Array Value} (hx : VRs φ xs c.toList) (hy : VRs φ ys e.toList) {t : TypeId} {z : Nat} :
    ∀ (n i : Nat) (r : Bool), eqEs E g xs ys t z i n = some r → ∀ w, (eqElems d c e t z i n).run P w = .ok r w
  | 0, i, r, h, w => by simp only [eqEs] at h; cases h; rfl
  | n + 1, i, r, h, w => by
    simp only [eqEs] at h
    split at h
    · rename_i a b ha hb
      obtain ⟨x, hxr, hxv⟩ := partT_ok EO hx ha w
      obtain ⟨y, hyr, hyv⟩ := partT_ok EO hy hb w
      unfold eqNext at h
      split at h
      · rename_i hgt
        have := hg t a b x y true hxv hyv hgt w
        simp [eqElems, hxr, hyr, this, eqEs_ok EO d g hg hx hy n (i + 1) r h w]
      · rename_i hgf
        cases h
        have := hg t a b x y false hxv hyv hgf w
        simp [eqElems, hxr, hyr, this]
      · cases h
    · cases h

theorem run_equalIn_array (d : Nat) (t : TypeId) (xs ys : Array Value) (n : Nat) (e : TypeId) (ht : P.underlying t = some (.array n e)) {i : TInf} (EO : EnvOk P E) (hi : E.ti.get e = some i) :
    (Op.equalIn (d + 1) t (.agg xs) (.agg ys)).run P w = (eqElems d xs ys e i.size 0 n).run P w := by
  simp only [Op.equalIn, Sem.run_bind, run_underlying ht, Result.andThen_ok, EO.size hi]
  have hr : ∀ (m : Nat) (k : Nat) (w : World),
      ((forIn (List.range' k m) ((none, ()) : Option Bool × PUnit) fun j (_ : Option Bool × PUnit) => (do
          if !(← Op.equalIn d e (← part e xs (j * i.size)) (← part e ys (j * i.size))) then
            pure (ForInStep.done (some false, ()))
          else pure (ForInStep.yield (none, ())) : Sem (ForInStep (Option Bool × PUnit)))).run P w).andThen (fun a w' => (match a.fst with | some b => (pure b : Sem Bool) | none => pure true).run P w') = (eqElems d xs ys e i.size k m).run P w := by
    intro m
    induction m with
    | zero => intro k w; simp [eqElems]
    | succ m ih =>
      intro k w
      simp only [List.range'_succ, List.forIn_cons, eqElems, Sem.run_bind, Sem.run_ite]
      generalize (part e xs (k * i.size)).run P w = r1
      cases r1 with
      | ok a w1 =>
        simp only [Result.andThen_ok]
        generalize (part e ys (k * i.size)).run P w1 = r2
        cases r2 with
        | ok b w2 =>
          simp only [Result.andThen_ok]
          generalize (Op.equalIn d e a b).run P w2 = r3
          cases r3 with
          | ok r w3 =>
            simp only [Result.andThen_ok]
            cases r with
            | true => simpa using ih (k + 1) w3
            | false => simp
          | halt h w3 => rfl
        | halt h w2 => rfl
      | halt h w1 => rfl
  have := hr n 0 w
  rw [← this]
  simp
  congr 1
  funext a w'
  cases a.fst <;> rfl

/-- '==' of values made of numbers, texts and bools. -/
theorem eqT_ok (EO : EnvOk P E) : ∀ (n : Nat) (t : TypeId) (a b : AV) (x y : Value) (r : Bool), VR φ a x → VR φ b y → eqT E n t a b = some r → ∀ (d : Nat) (w : World), n ≤ d → (Op.equalIn d t x y).run P w = .ok r w
  | 0, t, a, b, x, y, r, hx, hy, h, d, w, hd => by simp [eqT] at h
  | n + 1, t, a, b, x, y, r, hx, hy, h, d, w, hd => by
    obtain ⟨d, rfl⟩ : ∃ d', d = d' + 1 := ⟨d - 1, by omega⟩
    simp only [eqT] at h
    split at h
    · rename_i i hi
      obtain ⟨_, _, hu, _⟩ := EO.info t i hi
      split at h
      · rename_i hdesc
        cases hx; cases hy; cases h
        rw [hdesc] at hu
        exact run_equalIn_bool' w d t _ _ hu
      · rename_i hdesc
        cases hx; cases hy
        rw [hdesc] at hu
        split at h
        · rename_i hk
          cases h
          have hk := of_decide_eq_true hk
          subst hk
          rw [run_equalIn_int w d t _ _ _ _ hu]
          congr 1
        · cases h
      · rename_i hdesc
        rw [hdesc] at hu
        cases hx with
        | str s _ hs =>
          cases hy with
          | str s2 _ hs2 =>
            subst hs hs2
            cases h
            rw [run_equalIn_string w d t _ _ hu, eqBytes_eq, beq_toListBytes]
      · rename_i fs l m hdesc
        rw [hdesc] at hu
        cases hx with
        | agg _ c hc =>
          cases hy with
          | agg _ e he =>
            split at h
            · rename_i hsh
              rw [EO.sh] at hsh
              have hf := fieldsOf_eq hu
              rw [run_equalIn_struct w d t c e (by rw [hf]; exact hu) hsh, hf]
              exact eqFs_ok EO d _ (fun t a b x y r h1 h2 h3 w => eqT_ok EO n t a b x y r h1 h2 h3 d w (by omega)) hc he _ r h w
            · cases h
      · rename_i m e l l2 hdesc
        rw [hdesc] at hu
        cases hx with
        | agg _ c hc =>
          cases hy with
          | agg _ e2 he =>
            split at h
            · rename_i z hz
              obtain ⟨j, hj, rfl⟩ := sizeA_spec hz
              rw [run_equalIn_array d t c e2 m e hu EO hj]
              exact eqEs_ok EO d _ (fun t a b x y r h1 h2 h3 w => eqT_ok EO n t a b x y r h1 h2 h3 d w (by omega)) hc he _ _ r h w
            · cases h
      · cases h
    · cases h

theorem notStringish (r : R N φ h w) {b : Nat} {p : Loc} (hb : φ b = some p) (ho : ownRow h b = true) : ∃ c e, w.heap[p.blk]? = some (.cells c e (0, 0)) := by
  unfold ownRow at ho
  split at ho
  · rename_i hg
    obtain ⟨_, c, fz, hc, _, _, _, hst, _⟩ := r.obj b p _ hb hg
    have := hst (by simpa using ho)
    subst this
    exact ⟨c, _, hc⟩
  · cases ho

theorem run_sameAddr_own {a b : Addr} {c1 c2 : Array Value} {e1 e2 : TypeId} (hne : a.block ≠ b.block) (h1 : w.heap[a.block]? = some (.cells c1 e1 (0, 0))) (h2 : w.heap[b.block]? = some (.cells c2 e2 (0, 0))) :
    (sameAddr a b).run P w = .ok false w := by
  have hb : (a.block == b.block) = false := by simpa using hne
  have f1 : ∀ o s, w.frozen? ⟨a.block, o, s⟩ = false := fun o s => by simp [World.frozen?, h1]
  have f2 : ∀ o s, w.frozen? ⟨b.block, o, s⟩ = false := fun o s => by simp [World.frozen?, h2]
  have g1 := f1 a.off a.spot
  have g2 := f2 b.off b.spot
  have s1 : w.shape? a.block = some (e1, c1.size) := by simp [World.shape?, h1]
  have s2 : w.shape? b.block = some (e2, c2.size) := by simp [World.shape?, h2]
  obtain ⟨ab, ao, as⟩ := a
  obtain ⟨bb, bo, bs⟩ := b
  simp only at *
  simp [sameAddr, hb, g1, g2, noView, viewAt, s1, s2, mayBeOne, stringish, f1, f2]

theorem eqVal_ok (EO : EnvOk P E) (r : R N φ h w) {t : TypeId} {a b : AV} {x y : Value} {q : Bool} (hx : VR φ a x) (hy : VR φ b y) (hq : eqVal E h t a b = some q) (d : Nat) (hd9 : 9 ≤ d + 1) :
    (Op.equalIn (d + 1) t x y).run P w = .ok q w := by
  unfold eqVal at hq
  split at hq
  · rename_i i hi
    obtain ⟨_, _, hu, _⟩ := EO.info t i hi
    have hun := EO.under hi w
    split at hq
    · rename_i hdesc
      cases hx; cases hy; cases hq
      rw [hdesc] at hu
      exact run_equalIn_bool' w d t _ _ hu
    all_goals try (rename_i hdesc; cases hx <;> cases hy <;> cases hq <;> (simp only [Op.equalIn, Sem.run_bind, hun, hdesc, Result.andThen_ok]; rfl))
    · rename_i e a' o b' p' hdesc
      cases hx with
      | ptr _ _ p hp =>
        cases hy with
        | ptr _ _ p2 hp2 =>
          split at hq
          · rename_i m hsz
            obtain ⟨j, hj, hjs⟩ := sizeA_spec hsz
            have hs0 := EO.size hj w
            simp only [Op.equalIn, Sem.run_bind, hun, hdesc, Result.andThen_ok, hs0, hjs]
            rw [if_pos (by simp)]
            split at hq
            · rename_i hab
              have hab := Nat.eq_of_beq_eq_true hab
              subst hab
              cases hq
              rw [hp] at hp2; cases hp2
              simp [sameAddr]
              rw [Bool.eq_iff_iff]
              simp
            · rename_i hab
              have hab : a' ≠ b' := by intro e; subst e; simp at hab
              split at hq
              · rename_i hown
                cases hq
                simp only [Bool.and_eq_true] at hown
                obtain ⟨c1, e1, h1⟩ := notStringish r hp hown.1
                obtain ⟨c2, e2, h2⟩ := notStringish r hp2 hown.2
                refine run_sameAddr_own ?_ h1 h2
                intro hbk
                have g1 : ∃ x, h.get a' = some x := by
                  have := hown.1; unfold ownRow at this; split at this
                  · exact ⟨_, by assumption⟩
                  · cases this
                have g2 : ∃ x, h.get b' = some x := by
                  have := hown.2; unfold ownRow at this; split at this
                  · exact ⟨_, by assumption⟩
                  · cases this
                obtain ⟨x1, g1⟩ := g1
                obtain ⟨x2, g2⟩ := g2
                exact hab (r.inj a' b' p p2 x1 x2 hp hp2 g1 g2 hbk)
              · cases hq
          · cases hq
    · rename_i fs l m hdesc
      split at hq
      · exact eqT_ok EO 9 t _ _ x y q hx hy hq (d + 1) w hd9
      · cases hq
    · rename_i fs l m hdesc
      split at hq
      · exact eqT_ok EO 9 t _ _ x y q hx hy hq (d + 1) w hd9
      · cases hq
  · cases hq

end
end Go.Abs
