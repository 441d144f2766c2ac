/- The abstract machine: what the check of a region says; no conditions. -/
import Derived.Test.YtlidmkmjemoaeaaGreatDoorAbsF1
import Derived.Orders
set_option linter.unusedVariables false
set_option linter.unusedSimpArgs false
set_option linter.unusedSectionVars false
namespace Go.Abs
variable [Opq]
open Go

/-- j stands right ahead of i. -/
def Edge1 (ops : Array Oper) (j i : Nat) : Prop := ∃ o e, ops[i]? = some o ∧ e ∈ o.after.toList ∧ Region.binds .any e = true ∧ e.on = j

/-- j stands ahead of i in every order. -/
inductive Bf (ops : Array Oper) : Nat → Nat → Prop where
  | one {j i : Nat} (h : Edge1 ops j i) : Bf ops j i
  | more {j k i : Nat} (h : Bf ops j k) (h' : Edge1 ops k i) : Bf ops j i

theorem Bf.closed {ops : Array Oper} {S : Nat → Prop} (hS : ∀ i j, S i → Edge1 ops j i → S j) {j i : Nat} (h : Bf ops j i) (hi : ∀ j, Edge1 ops j i → S j) : S j := by
  induction h with
  | one h => exact hi _ h
  | more h h' ih => exact ih fun j hj => hS _ _ (hi _ h') hj

theorem testBit_lor (a b i : Nat) : Nat.testBit (Nat.lor a b) i = (Nat.testBit a i || Nat.testBit b i) := Nat.testBit_or a b i
theorem testBit_pow (k i : Nat) (h : Nat.testBit (Nat.pow 2 k) i = true) : i = k := by
  have : Nat.testBit (2 ^ k) i = true := h
  rw [Nat.testBit_two_pow] at this
  have := of_decide_eq_true this
  exact this.symm

theorem edgesMask_spec {ops : Array Oper} {acc : PT Nat} {i : Nat} {o : Oper} (ho : ops[i]? = some o) (hacc : ∀ k j, bit ((acc.get k).getD 0) j = true → Bf ops j k) :
    ∀ (l : List Edge), (∀ e ∈ l, e ∈ o.after.toList) → ∀ j, Nat.testBit (edgesMask acc l) j = true → Bf ops j i
  | [], _, j, h => by simp [edgesMask] at h
  | e :: l, hl, j, h => by
    unfold edgesMask at h
    split at h
    · rename_i hb
      rw [testBit_lor, testBit_lor] at h
      have he : Edge1 ops e.on i := ⟨o, e, ho, hl e (by simp), hb, rfl⟩
      rcases Bool.or_eq_true _ _ ▸ h with h | h
      · rcases Bool.or_eq_true _ _ ▸ h with h | h
        · rw [testBit_pow _ _ h]; exact .one he
        · exact .more (hacc _ _ h) he
      · exact edgesMask_spec ho hacc l (fun e he => hl e (by simp [he])) j h
    · exact edgesMask_spec ho hacc l (fun e he => hl e (by simp [he])) j h

theorem masks_spec {ops : Array Oper} : ∀ (l : List Oper) (i : Nat) (acc : PT Nat), ops.toList.drop i = l → (∀ k j, bit ((acc.get k).getD 0) j = true → Bf ops j k) →
    ∀ k j, bit (((masks acc i l).get k).getD 0) j = true → Bf ops j k
  | [], i, acc, _, hacc, k, j, h => hacc k j h
  | o :: l, i, acc, hl, hacc, k, j, h => by
    have ho : ops[i]? = some o := by
      have := congrArg (·[0]?) hl
      simpa using this
    have hl' : ops.toList.drop (i + 1) = l := by
      rw [← List.drop_drop, hl]; rfl
    have : masks acc i (o :: l) = masks (acc.set i (edgesMask acc o.after.toList)) (i + 1) l := by
      simp only [masks, fNat_eq]
    rw [this] at h
    refine masks_spec l (i + 1) _ hl' (fun k j hk => ?_) k j h
    rw [PT.get_set] at hk
    split at hk
    · rename_i e
      subst e
      exact edgesMask_spec ho hacc _ (fun e he => he) j hk
    · exact hacc k j hk

/-- The numbers of a region's operations that stand ahead of others. -/
theorem mask_Bf {ops : Array Oper} {i j : Nat} (h : bit (((masks .lf 0 ops.toList).get i).getD 0) j = true) : Bf ops j i :=
  masks_spec ops.toList 0 .lf rfl (fun k j h => by simp [PT.get_lf, bit] at h) i j h

theorem edgesOk_spec {i : Nat} : ∀ {l : List Edge}, edgesOk i l = true → ∀ e ∈ l, Region.binds .any e = true → e.on < i
  | [], _, e, he, _ => by simp at he
  | x :: l, h, e, he, hb => by
    simp only [edgesOk, Bool.and_eq_true, Bool.or_eq_true, Bool.not_eq_true'] at h
    rcases List.mem_cons.1 he with rfl | he
    · rcases h.1 with h1 | h1
      · rw [h1] at hb; cases hb
      · have : e.on + 1 ≤ i := by simpa using h1
        omega
    · exact edgesOk_spec h.2 e he hb

theorem allEdges_spec {ops : Array Oper} : ∀ (l : List Oper) (i : Nat), ops.toList.drop i = l → allEdges i l = true →
    ∀ k o, i ≤ k → ops[k]? = some o → (∀ e ∈ o.after.toList, Region.binds .any e = true → e.on < k) ∧ ∀ j wt, o.guard = some (j, wt) → Edge1 ops j k
  | [], i, hl, _, k, o, hk, ho => by
    have h1 : ops.size ≤ i := by simpa using hl
    have := (Array.getElem?_eq_some_iff.1 ho).1
    omega
  | x :: l, i, hl, h, k, o, hk, ho => by
    have hx : ops[i]? = some x := by
      have := congrArg (·[0]?) hl
      simpa using this
    have hl' : ops.toList.drop (i + 1) = l := by
      rw [← List.drop_drop, hl]; rfl
    simp only [allEdges, Bool.and_eq_true] at h
    by_cases e : k = i
    · subst e
      rw [hx] at ho; cases ho
      refine ⟨edgesOk_spec h.1.1, fun j wt hg => ?_⟩
      have h2 := h.1.2
      rw [hg] at h2
      simp only at h2
      obtain ⟨e, he, hb⟩ := Array.any_eq_true'.1 h2
      simp only [Bool.and_eq_true] at hb
      exact ⟨x, e, hx, by simpa using he, hb.1, by simpa using hb.2⟩
    · exact allEdges_spec l (i + 1) hl' h.2 k o (by omega) ho

/-- slots that an operation looks at: its operands and its guard's -/
def rdsOf (ops : Array Oper) (o : Oper) : List Nat := readsO o.op.operands.toList ++ (match o.guard with
  | some (j, _) => match (ops[j]?).bind (·.dst) with
    | some d => [d]
    | none => []
  | none => [])

theorem infos_get (E : Env) (ops : Array Oper) (ms : PT Nat) : ∀ (l : List Oper) (i k : Nat), (infos E ops ms i l)[k]? = (l[k]?).map fun o => ⟨i + k, cls E o.op, o.dst, rdsOf ops o, (ms.get (i + k)).getD 0⟩
  | [], i, k => by simp [infos]
  | o :: l, i, 0 => by
    simp [infos, rdsOf]
    cases o.guard <;> rfl
  | o :: l, i, k + 1 => by
    simp only [infos, List.getElem?_cons_succ]
    rw [infos_get E ops ms l (i + 1) k, show i + 1 + k = i + (k + 1) by omega]

theorem pairsOk_spec : ∀ {l : List OInf}, pairsOk l = true → ∀ (i j : Nat) (x y : OInf), i < j → l[i]? = some x → l[j]? = some y → pairOk x y = true
  | [], _, i, j, x, y, _, hx, _ => by simp at hx
  | z :: l, h, 0, j + 1, x, y, _, hx, hy => by
    simp only [pairsOk, Bool.and_eq_true, List.all_eq_true] at h
    simp at hx hy; subst hx
    exact h.1 y (List.mem_of_getElem? hy)
  | z :: l, h, i + 1, j + 1, x, y, hij, hx, hy => by
    simp only [pairsOk, Bool.and_eq_true] at h
    exact pairsOk_spec h.2 i j x y (by omega) (by simpa using hx) (by simpa using hy)

theorem dstsOk_spec : ∀ {l : List OInf}, dstsOk l = true → ∀ (i j : Nat) (x y : OInf) (d : Nat), i < j → l[i]? = some x → l[j]? = some y → x.dst = some d → y.dst ≠ some d
  | [], _, i, j, x, y, d, _, hx, _ => by simp at hx
  | z :: l, h, 0, j + 1, x, y, d, _, hx, hy => by
    intro hd hd'
    simp only [dstsOk, Bool.and_eq_true] at h
    simp at hx hy; subst hx
    have h1 := h.1
    rw [hd] at h1
    simp only [List.all_eq_true] at h1
    have := h1 y (List.mem_of_getElem? hy)
    rw [hd'] at this
    simp at this
  | z :: l, h, i + 1, j + 1, x, y, d, hij, hx, hy => by
    simp only [dstsOk, Bool.and_eq_true] at h
    exact dstsOk_spec h.2 i j x y d (by omega) (by simpa using hx) (by simpa using hy)

/-- What the check of a region says. -/
structure ROk (E : Env) (ops : Array Oper) : Prop where
  back : ∀ j i, Edge1 ops j i → j < i
  guard : ∀ i o j wt, ops[i]? = some o → o.guard = some (j, wt) → Edge1 ops j i
  pair : ∀ (i j : Nat) (x y : Oper), i < j → ops[i]? = some x → ops[j]? = some y → Bf ops i j ∨
    (((cls E x.op).isEff = true → (cls E y.op).isEff = true → False) ∧ (∀ d, x.dst = some d → d ∉ rdsOf ops y) ∧ (∀ d, y.dst = some d → d ∉ rdsOf ops x))
  dsts : ∀ (i j : Nat) (x y : Oper) (d : Nat), i ≠ j → ops[i]? = some x → ops[j]? = some y → x.dst = some d → y.dst ≠ some d

theorem regionOk_spec {E : Env} {ops : Array Oper} (h : regionOk E ops = true) : ROk E ops := by
  simp only [regionOk, Bool.and_eq_true] at h
  obtain ⟨h1, h2, h3⟩ := h
  have hE := allEdges_spec ops.toList 0 rfl h1
  have hd : ∀ (i j : Nat) (x y : Oper) (d : Nat), i < j → ops[i]? = some x → ops[j]? = some y → x.dst = some d → y.dst ≠ some d := fun i j x y d hij hx hy hxd => by
    have hx' : ops.toList[i]? = some x := by simpa using hx
    have hy' : ops.toList[j]? = some y := by simpa using hy
    have := dstsOk_spec h3 i j _ _ d hij (by rw [infos_get, hx']; rfl) (by rw [infos_get, hy']; rfl) hxd
    exact this
  refine ⟨?_, ?_, ?_, ?_⟩
  · rintro j i ⟨o, e, ho, he, hb, rfl⟩
    exact (hE i o (Nat.zero_le _) ho).1 e he hb
  · intro i o j wt ho hg
    exact (hE i o (Nat.zero_le _) ho).2 j wt hg
  · intro i j x y hij hx hy
    have hx' : ops.toList[i]? = some x := by simpa using hx
    have hy' : ops.toList[j]? = some y := by simpa using hy
    have hp := pairsOk_spec h2 i j _ _ hij (by rw [infos_get, hx']; rfl) (by rw [infos_get, hy']; rfl)
    unfold pairOk at hp
    simp only [Bool.or_eq_true, Bool.and_eq_true, Nat.zero_add] at hp
    rcases hp with hp | ⟨⟨hp1, hp2⟩, hp3⟩
    · exact .inl (mask_Bf hp)
    · refine .inr ⟨fun e1 e2 => by rw [e1, e2] at hp1; simp at hp1, fun d hd => ?_, fun d hd => ?_⟩
      · rw [hd] at hp2
        simp only [Bool.and_eq_true, Bool.not_eq_true'] at hp2
        intro hm
        have := hp2.1
        simp [List.elem_eq_mem, hm] at this
      · rw [hd] at hp3
        simp only [Bool.not_eq_true'] at hp3
        intro hm
        simp [List.elem_eq_mem, hm] at hp3
  · intro i j x y d hij hx hy hxd
    rcases Nat.lt_or_gt_of_ne hij with h | h
    · exact hd i j x y d h hx hy hxd
    · intro hyd; exact hd j i y x d h hy hx hyd hxd
end Go.Abs
