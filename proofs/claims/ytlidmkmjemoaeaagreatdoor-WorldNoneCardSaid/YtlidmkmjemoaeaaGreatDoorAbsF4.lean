/- The abstract machine: the walk in the order of the text, as a row of states; what is known of it; no conditions. -/
import Derived.Test.YtlidmkmjemoaeaaGreatDoorAbsF3
set_option linter.unusedVariables false
set_option linter.unusedSimpArgs false
set_option linter.unusedSectionVars false
namespace Go.Abs
variable [Opq]
open Go

/-! ### values that speak of old blocks -/
def Phi.cut (φ : Phi) (n : Nat) : Phi := fun b => if b < n then φ b else none
theorem Phi.cut_le (φ : Phi) (n : Nat) : (φ.cut n).le φ := fun b p h => by
  simp only [Phi.cut] at h
  split at h
  · exact h
  · cases h
theorem Phi.cut_mono (φ : Phi) {n m : Nat} (h : n ≤ m) : (φ.cut n).le (φ.cut m) := fun b p hb => by
  simp only [Phi.cut] at hb ⊢
  split at hb
  · rw [if_pos (by omega)]; exact hb
  · cases hb
theorem Phi.cut_some {φ : Phi} {n b : Nat} {p : Loc} (h : φ.cut n b = some p) : b < n ∧ φ b = some p := by
  simp only [Phi.cut] at h
  split at h
  · exact ⟨by assumption, h⟩
  · cases h
theorem Phi.cut_of {φ : Phi} {n b : Nat} {p : Loc} (h : φ b = some p) (hn : b < n) : φ.cut n b = some p := by
  simp only [Phi.cut]; rw [if_pos hn]; exact h
theorem Phi.cut_le_cut {φ ψ : Phi} (h : φ.le ψ) (n : Nat) : (φ.cut n).le (ψ.cut n) := fun b p hb => by
  obtain ⟨h1, h2⟩ := Phi.cut_some hb
  exact Phi.cut_of (h _ _ h2) h1

section below
variable {φ ψ : Phi} {n : Nat} (hn : ∀ b p, φ b = some p → b < n)
include hn
theorem FnR.cut {f g g' : Fn} (h : FnR φ f g) (h' : FnR ψ f g') : FnR (ψ.cut n) f g' := by
  cases h' with
  | same _ hy => exact .same _ hy
  | yield l p hp =>
    cases h with
    | same _ hy => exact absurd rfl (hy l)
    | yield _ q hq => exact .yield l p (Phi.cut_of hp (hn _ _ hq))
mutual
theorem VR.cut : ∀ {v : AV} {x y : Value}, VR ψ v y → VR φ v x → VR (ψ.cut n) v y
  | _, _, _, .int k m, h => .int k m
  | _, _, _, .bool b, h => .bool b
  | _, _, _, .str s l e, h => .str s l e
  | _, _, _, .nilPtr, h => .nilPtr
  | _, _, _, .ptr b o p e, h => by
    cases h with
    | ptr _ _ q hq => exact .ptr b o p (Phi.cut_of e (hn _ _ hq))
  | _, _, _, .nilSlice, h => .nilSlice
  | _, _, _, .sliceX b o m c p e, h => by
    cases h with
    | sliceX _ _ _ _ q hq => exact .sliceX b o m c p (Phi.cut_of e (hn _ _ hq))
  | _, _, _, .sliceU b o m c p e h1 h2, h => by
    cases h with
    | sliceU _ _ _ _ q hq _ _ => exact .sliceU b o m c p (Phi.cut_of e (hn _ _ hq)) h1 h2
  | _, _, _, .slice0 b o c p e h1 h2, h => by
    cases h with
    | slice0 _ _ _ q hq _ _ => exact .slice0 b o c p (Phi.cut_of e (hn _ _ hq)) h1 h2
  | _, _, _, .nilMap, h => .nilMap
  | _, _, _, .map r p e h0, h => by
    cases h with
    | map _ q hq _ => exact .map r p (Phi.cut_of e (hn _ _ hq)) h0
  | _, _, _, .func f g a c a' c' hf ha hc, h => by
    cases h with
    | func _ g1 _ _ a1 c1 hf1 ha1 hc1 => exact .func f g a c a' c' (FnR.cut hn hf1 hf) (VRs.cut ha ha1) (VRs.cut hc hc1)
  | _, _, _, .nilFunc, h => .nilFunc
  | _, _, _, .iface t v x r, h => by
    cases h with
    | iface _ _ x1 r1 => exact .iface t v x (VR.cut r r1)
  | _, _, _, .nilIface, h => .nilIface
  | _, _, _, .agg l a r, h => by
    cases h with
    | agg _ a1 r1 => exact .agg l a (VRs.cut r r1)
  | _, _, _, .tuple l a r, h => by
    cases h with
    | tuple _ a1 r1 => exact .tuple l a (VRs.cut r r1)
  | _, _, _, .opq i, h => .opq i
theorem VRs.cut : ∀ {l : List AV} {m m' : List Value}, VRs ψ l m' → VRs φ l m → VRs (ψ.cut n) l m'
  | _, _, _, .nil, h => .nil
  | _, _, _, .cons v x l m r rl, h => by
    cases h with
    | cons _ x1 _ m1 r1 rl1 => exact .cons v x l m (VR.cut r r1) (VRs.cut rl rl1)
end
end below

/-! ### the walk in the order of the text -/
/-- One operation of a region in the order of the text. -/
inductive StepC (E : Env) (C : CallT) (nt : Nat) (rnd : Option Nat) (ops : Array Oper) (ss : List Seen) (j : Nat) (o : Oper) (fr : Fr) (ds : List AD) (h : AHeap) (fr' : Fr) (ds' : List AD) (h' : AHeap) : Prop
  | skip (hw : want ops fr o = some false) (hf : setD nt fr o.dst (.tuple []) = some fr') (hd : ds' = ds) (hh : h' = h)
  | pure (v : AV) (hw : want ops fr o = some true) (hc : cls E o.op = .pure) (hx : opA E h fr o.op = some (.val v)) (hf : setD nt fr o.dst v = some fr') (hd : ds' = ds) (hh : h' = h)
  | look (v : AV) (hw : want ops fr o = some true) (hc : cls E o.op = .look) (hx : opA E h fr o.op = some (.val v)) (hf : setD nt fr o.dst v = some fr') (hd : ds' = ds) (hh : h' = h) (hs : ⟨j, o.op, fr, v⟩ ∈ ss)
  | alloc (v : AV) (hw : want ops fr o = some true) (hc : cls E o.op = .alloc) (hx : opA E h fr o.op = some (.mem v h')) (hf : setD nt fr o.dst v = some fr') (hd : ds' = ds)
  | eff (y : OpR) (v : AV) (dd : List AD) (hw : want ops fr o = some true) (hc : cls E o.op = .eff) (hx : opA E h fr o.op = some y) (ho : outR C rnd h y = some (v, h', dd)) (hf : setD nt fr o.dst v = some fr') (hd : ds' = dd ++ ds)

/-- An effect that is done. -/
def WE (E : Env) (ops : Array Oper) (F : Nat → Fr) (j : Nat) : Prop := ∃ o, ops[j]? = some o ∧ want ops (F j) o = some true ∧ cls E o.op = .eff

/-- The memory ahead of each effect, the last one first. -/
inductive HsR (W : Nat → Prop) (H : Nat → AHeap) (n : Nat) : Nat → List (Nat × AHeap) → List (Nat × AHeap) → Prop
  | done (l : List (Nat × AHeap)) : HsR W H n n l l
  | no (i : Nat) (l l' : List (Nat × AHeap)) (hi : i < n) (hw : ¬ W i) (h : HsR W H n (i + 1) l l') : HsR W H n i l l'
  | yes (i : Nat) (l l' : List (Nat × AHeap)) (hi : i < n) (hw : W i) (h : HsR W H n (i + 1) ((i, H i) :: l) l') : HsR W H n i l l'

theorem HsR.congr {W W' : Nat → Prop} {H H' : Nat → AHeap} {n : Nat} {i : Nat} {l l' : List (Nat × AHeap)} (h : HsR W H n i l l') : (∀ k, i ≤ k → (W' k ↔ W k) ∧ H' k = H k) → HsR W' H' n i l l' := by
  induction h with
  | done l => exact fun _ => .done l
  | no i l l' hi hw h ih => exact fun hk => .no _ _ _ hi (fun hw' => hw ((hk i (Nat.le_refl _)).1.1 hw')) (ih fun k hk' => hk k (by omega))
  | yes i l l' hi hw h ih =>
    intro hk
    refine .yes _ _ _ hi ((hk i (Nat.le_refl _)).1.2 hw) ?_
    rw [(hk i (Nat.le_refl _)).2]
    exact ih fun k hk' => hk k (by omega)

section trace
variable {E : Env} {C : CallT} {nt : Nat} {rnd : Option Nat} {ops : Array Oper}

theorem opsD_trace : ∀ (l : List Oper) (i : Nat), ops.toList.drop i = l → i ≤ ops.size → ∀ {ss hs fr ds h s ss' hs'}, opsD E C nt rnd ops l i ss hs fr ds h = some (s, ss', hs') →
    ∃ (F : Nat → Fr) (D : Nat → List AD) (H : Nat → AHeap), F i = fr ∧ D i = ds ∧ H i = h ∧ F ops.size = s.fr ∧ D ops.size = s.ds ∧ H ops.size = s.h ∧ (∀ x ∈ ss, x ∈ ss') ∧
      (∀ j o, i ≤ j → ops[j]? = some o → StepC E C nt rnd ops ss' j o (F j) (D j) (H j) (F (j + 1)) (D (j + 1)) (H (j + 1))) ∧ HsR (WE E ops F) H ops.size i hs hs'
  | [], i, hl, hi, ss, hs, fr, ds, h, s, ss', hs', hx => by
    have : opsD E C nt rnd ops [] i ss hs fr ds h = some (⟨fr, ds, h⟩, ss, hs) := rfl
    rw [this] at hx
    cases hx
    have hn : ops.size ≤ i := by simpa using hl
    have hn : i = ops.size := by omega
    subst hn
    refine ⟨fun _ => fr, fun _ => ds, fun _ => h, rfl, rfl, rfl, rfl, rfl, rfl, fun x hx => hx, fun j o hj ho => ?_, .done _⟩
    have := (Array.getElem?_eq_some_iff.1 ho).1
    omega
  | o :: l, i, hl, hi, ss, hs, fr, ds, h, s, ss', hs', hx => by
    have ho : ops[i]? = some o := by
      have := congrArg (·[0]?) hl
      simpa using this
    have hil : i < ops.size := (Array.getElem?_eq_some_iff.1 ho).1
    have hl' : ops.toList.drop (i + 1) = l := by
      rw [← List.drop_drop, hl]; rfl
    have hx : opsSD E C nt rnd ops o (opsD E C nt rnd ops l) i ss hs fr ds h = some (s, ss', hs') := hx
    have key : ∀ ss₁ hs₁ fr₁ ds₁ h₁, opsD E C nt rnd ops l (Nat.add i 1) ss₁ hs₁ fr₁ ds₁ h₁ = some (s, ss', hs') → (∀ x ∈ ss, x ∈ ss₁) →
        ((∀ x ∈ ss₁, x ∈ ss') → StepC E C nt rnd ops ss' i o fr ds h fr₁ ds₁ h₁) → (hs₁ = hs ∧ ¬ (want ops fr o = some true ∧ cls E o.op = .eff) ∨ hs₁ = (i, h) :: hs ∧ (want ops fr o = some true ∧ cls E o.op = .eff)) →
        ∃ (F : Nat → Fr) (D : Nat → List AD) (H : Nat → AHeap), F i = fr ∧ D i = ds ∧ H i = h ∧ F ops.size = s.fr ∧ D ops.size = s.ds ∧ H ops.size = s.h ∧ (∀ x ∈ ss, x ∈ ss') ∧
          (∀ j o, i ≤ j → ops[j]? = some o → StepC E C nt rnd ops ss' j o (F j) (D j) (H j) (F (j + 1)) (D (j + 1)) (H (j + 1))) ∧ HsR (WE E ops F) H ops.size i hs hs' := by
      intro ss₁ hs₁ fr₁ ds₁ h₁ hk hss hst hhs
      obtain ⟨F, D, H, e1, e2, e3, e4, e5, e6, hsub, hstep, hH⟩ := opsD_trace l (i + 1) hl' hil hk
      have ne : ∀ {α : Type} (G : Nat → α) (x : α) (j : Nat), i + 1 ≤ j → (if j = i then x else G j) = G j := fun G x j hj => if_neg (by omega)
      refine ⟨fun j => if j = i then fr else F j, fun j => if j = i then ds else D j, fun j => if j = i then h else H j, by simp, by simp, by simp, ?_, ?_, ?_, fun x hx => hsub x (hss x hx), fun j o' hj ho' => ?_, ?_⟩
      · simp only; rw [ne F _ _ hil]; exact e4
      · simp only; rw [ne D _ _ hil]; exact e5
      · simp only; rw [ne H _ _ hil]; exact e6
      · by_cases hji : j = i
        · subst hji
          rw [ho] at ho'; cases ho'
          simp only [if_true]
          rw [ne F _ _ (Nat.le_refl _), ne D _ _ (Nat.le_refl _), ne H _ _ (Nat.le_refl _), e1, e2, e3]
          exact hst hsub
        · simp only
          rw [if_neg hji, if_neg hji, if_neg hji, ne F _ _ (by omega), ne D _ _ (by omega), ne H _ _ (by omega)]
          exact hstep j o' (by omega) ho'
      · have hH' := hH.congr (W' := WE E ops fun j => if j = i then fr else F j) (H' := fun j => if j = i then h else H j) fun k hk => by
          refine ⟨?_, ne H _ _ hk⟩
          unfold WE
          simp only
          rw [ne F _ _ hk]
        rcases hhs with ⟨rfl, hw⟩ | ⟨rfl, hw⟩
        · refine .no _ _ _ hil (fun hW => ?_) hH'
          obtain ⟨o', ho', hw'⟩ := hW
          rw [ho] at ho'; cases ho'
          simp only [if_true] at hw'
          exact hw hw'
        · refine .yes _ _ _ hil ⟨o, ho, by simp only [if_true]; exact hw⟩ ?_
          simp only [if_true]
          exact hH'
    unfold opsSD at hx
    split at hx
    · rename_i b hw
      split at hx
      · unfold oneD at hx
        split at hx
        · rename_i hc
          split at hx
          · rename_i v hv
            obtain ⟨fr', hs', hk⟩ := keep_inv hx
            exact key _ _ _ _ _ hk (fun x hx => List.mem_cons_of_mem _ hx) (fun hsub => .look v hw hc hv hs' rfl rfl (hsub _ (List.mem_cons_self ..))) (.inl ⟨rfl, fun h => by rw [hc] at h; cases h.2⟩)
          · cases hx
        · rename_i hc
          obtain ⟨y, v, h', dd, hy, hout, hk⟩ := doOp_inv hx
          obtain ⟨fr', hs', hk⟩ := keep_inv hk
          exact key _ _ _ _ _ hk (fun x hx => hx) (fun hsub => .eff y v dd hw hc hy hout hs' rfl) (.inr ⟨rfl, hw, hc⟩)
        · rename_i hc
          split at hx
          · rename_i v hv
            obtain ⟨fr', hs', hk⟩ := keep_inv hx
            exact key _ _ _ _ _ hk (fun x hx => hx) (fun hsub => .pure v hw hc hv hs' rfl rfl) (.inl ⟨rfl, fun h => by rw [hc] at h; cases h.2⟩)
          · cases hx
        · rename_i hc
          split at hx
          · rename_i v h' hv
            obtain ⟨fr', hs', hk⟩ := keep_inv hx
            exact key _ _ _ _ _ hk (fun x hx => hx) (fun hsub => .alloc v hw hc hv hs' rfl) (.inl ⟨rfl, fun h => by rw [hc] at h; cases h.2⟩)
          · cases hx
      · obtain ⟨fr', hs', hk⟩ := keep_inv hx
        exact key _ _ _ _ _ hk (fun x hx => hx) (fun hsub => .skip hw hs' rfl rfl) (.inl ⟨rfl, fun h => by rw [hw] at h; cases h.1⟩)
    · cases hx

/-- The memory ahead of the next effect. -/
def Nxt (W : Nat → Prop) (H : Nat → AHeap) (n i e : Nat) : Prop := i ≤ e ∧ e ≤ n ∧ (e < n → W e) ∧ ∀ j, i ≤ j → j < e → ¬ W j

mutual
theorem beqAV_eq : ∀ {a b : AV}, beqAV a b = true → a = b
  | .int .., b, h => by cases b <;> simp [beqAV] at h ⊢ <;> exact h
  | .bool _, b, h => by cases b <;> simp [beqAV] at h ⊢ <;> exact h
  | .str _, b, h => by cases b <;> simp [beqAV] at h ⊢ <;> exact h
  | .nilPtr, b, h => by cases b <;> simp [beqAV] at h ⊢
  | .ptr .., b, h => by cases b <;> simp [beqAV] at h ⊢ <;> exact h
  | .nilSlice, b, h => by cases b <;> simp [beqAV] at h ⊢
  | .slice .., b, h => by cases b <;> simp [beqAV] at h ⊢ <;> (obtain ⟨⟨⟨h1, h2⟩, h3⟩, h4⟩ := h; exact ⟨h1, h2, h3, h4⟩)
  | .slice0 _, b, h => by cases b <;> simp [beqAV] at h ⊢ <;> exact h
  | .nilMap, b, h => by cases b <;> simp [beqAV] at h ⊢
  | .map _, b, h => by cases b <;> simp [beqAV] at h ⊢ <;> exact h
  | .func f a c, b, h => by
    cases b <;> simp [beqAV] at h ⊢
    exact ⟨h.1.1, beqAVs_eq h.1.2, beqAVs_eq h.2⟩
  | .nilFunc, b, h => by cases b <;> simp [beqAV] at h ⊢
  | .iface t v, b, h => by
    cases b <;> simp [beqAV] at h ⊢
    exact ⟨h.1, beqAV_eq h.2⟩
  | .nilIface, b, h => by cases b <;> simp [beqAV] at h ⊢
  | .agg l, b, h => by
    cases b <;> simp [beqAV] at h ⊢
    exact beqAVs_eq h
  | .tuple l, b, h => by
    cases b <;> simp [beqAV] at h ⊢
    exact beqAVs_eq h
  | .opq _, b, h => by cases b <;> simp [beqAV] at h ⊢ <;> exact h
theorem beqAVs_eq : ∀ {a b : List AV}, beqAVs a b = true → a = b
  | [], [], _ => rfl
  | [], _ :: _, h => by simp [beqAVs] at h
  | _ :: _, [], h => by simp [beqAVs] at h
  | x :: l, y :: m, h => by
    simp [beqAVs] at h
    rw [beqAV_eq h.1, beqAVs_eq h.2]
end

theorem seenIn_spec {g : AHeap} {x : Seen} (h : seenIn E g x = true) : opA E g x.fr x.op = some (.val x.v) := by
  unfold seenIn at h
  split at h
  · rename_i v hv
    rw [hv, beqAV_eq h]
  · cases h

/-- What was looked at is seen wherever the look may stand. -/
theorem seen_spec {W : Nat → Prop} {H : Nat → AHeap} {n : Nat} {ms : PT Nat} {x : Seen} {i : Nat} {l l' : List (Nat × AHeap)} (hr : HsR W H n i l l') (hs : seenOk E ms x (H n) l' = true) (hi : i ≤ n) :
    (∃ e, Nxt W H n i e ∧ seenOk E ms x (H e) l = true) ∧ ∀ e, i ≤ e → e < n → W e → (match Nat.ble (Nat.add e 1) x.i with
      | true => bit ((ms.get x.i).getD 0) e
      | false => bit ((ms.get e).getD 0) x.i) = true ∨ (seenIn E (H e) x = true ∧ ∃ e', Nxt W H n (e + 1) e' ∧ seenIn E (H e') x = true) := by
  induction hr with
  | done l => exact ⟨⟨n, ⟨Nat.le_refl _, Nat.le_refl _, fun h => absurd h (Nat.lt_irrefl _), fun j h1 h2 => by omega⟩, hs⟩, fun e h1 h2 => by omega⟩
  | no i l l' hi' hw h ih =>
    obtain ⟨⟨e, ⟨h1, h2, h3, h4⟩, he⟩, hall⟩ := ih hs hi'
    refine ⟨⟨e, ⟨by omega, h2, h3, fun j hj1 hj2 => ?_⟩, he⟩, fun e' h1' h2' hW => ?_⟩
    · by_cases hji : j = i
      · subst hji; exact hw
      · exact h4 j (by omega) hj2
    · have : e' ≠ i := fun h => hw (h ▸ hW)
      exact hall e' (by omega) h2' hW
  | yes i l l' hi' hw h ih =>
    obtain ⟨⟨e, hN, he⟩, hall⟩ := ih hs hi'
    simp only [seenOk, Bool.and_eq_true, Bool.or_eq_true] at he
    refine ⟨⟨i, ⟨Nat.le_refl _, by omega, fun _ => hw, fun j h1 h2 => by omega⟩, he.2⟩, fun e' h1' h2' hW => ?_⟩
    by_cases hei : e' = i
    · subst hei
      rcases he.1 with h1 | h1
      · exact .inl h1
      · exact .inr ⟨h1.1, e, hN, h1.2⟩
    · exact hall e' (by omega) h2' hW
end trace
end Go.Abs
