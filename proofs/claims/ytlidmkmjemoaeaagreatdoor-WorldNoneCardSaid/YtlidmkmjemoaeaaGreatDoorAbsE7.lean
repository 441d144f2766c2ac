/- The abstract machine: arithmetic, conversions, assertions, both machines; no conditions. -/
import Derived.Test.YtlidmkmjemoaeaaGreatDoorAbsE6
set_option linter.unusedVariables false
set_option linter.unusedSimpArgs false
set_option linter.unusedSectionVars false
namespace Go.Abs
variable [Opq]
open Go
section
variable {P : Program} {E : Env} {N : FuncId → Nat} {φ : Phi} {h : AHeap} {w : World}

theorem bits_mod (k : IntKind) (x : Int) : (BitVec.ofInt k.bits x).toNat = (x % (2 ^ k.bits : Int)).toNat := by
  simp [BitVec.toNat_ofInt]

theorem bitsI_ok {op : BinOp} {k : IntKind} {a b : Int} {x : OpR} (hx : bitsI op k a b = some x) : ∃ n, x = .val (.int k n) ∧ (Op.intBits op k a b).run P w = .ok (.int k n) w := by
  unfold bitsI at hx
  simp only at hx
  split at hx
  all_goals try cases hx
  all_goals
    have e := vInt_inv hx
    subst e
    refine ⟨_, rfl, ?_⟩
    simp only [Op.intBits, Sem.run_pure]
    congr 3
    try (simp only [BitVec.toNat_and, BitVec.toNat_or, BitVec.toNat_xor, bits_mod])
    try rfl

theorem arith_ok {op : BinOp} {t : TypeId} {k : IntKind} {a b : Int} {x : OpR} (hx : arith op k a b = some x) : ∃ v y, x = .val v ∧ VR φ v y ∧ (binOp op t (.int k a) (.int k b)).run P w = .ok y w := by
  unfold arith at hx
  split at hx
  · cases vInt_inv hx; exact ⟨_, _, rfl, .int _ _, by rw [binOp_add]; rfl⟩
  · cases vInt_inv hx; exact ⟨_, _, rfl, .int _ _, by rw [binOp_sub]; rfl⟩
  · cases vInt_inv hx; exact ⟨_, _, rfl, .int _ _, by rw [binOp_mul]; rfl⟩
  · split at hx
    · cases hx
    · rename_i hb
      have hb := of_decide_eq_false hb
      cases vInt_inv hx
      refine ⟨_, _, rfl, .int _ _, ?_⟩
      rw [binOp_quo]
      simp [Op.intDiv, hb]
  · split at hx
    · cases hx
    · rename_i hb
      have hb := of_decide_eq_false hb
      cases vInt_inv hx
      refine ⟨_, _, rfl, .int _ _, ?_⟩
      rw [binOp_rem]
      simp [Op.intDiv, hb]
  · cases vBool_inv hx; exact ⟨_, _, rfl, .bool _, by rw [binOp_eql]; rfl⟩
  · cases vBool_inv hx; exact ⟨_, _, rfl, .bool _, by rw [binOp_neq]; rfl⟩
  · cases vBool_inv hx; exact ⟨_, _, rfl, .bool _, by rw [binOp_lss]; rfl⟩
  · cases vBool_inv hx; exact ⟨_, _, rfl, .bool _, by rw [binOp_leq]; rfl⟩
  · cases vBool_inv hx; exact ⟨_, _, rfl, .bool _, by rw [binOp_gtr]; rfl⟩
  · cases vBool_inv hx; exact ⟨_, _, rfl, .bool _, by rw [binOp_geq]; rfl⟩
  · obtain ⟨n, rfl, hr⟩ := bitsI_ok (P := P) (w := w) hx; exact ⟨_, _, rfl, .int _ _, by rw [binOp_and]; exact hr⟩
  · obtain ⟨n, rfl, hr⟩ := bitsI_ok (P := P) (w := w) hx; exact ⟨_, _, rfl, .int _ _, by rw [binOp_or]; exact hr⟩
  · obtain ⟨n, rfl, hr⟩ := bitsI_ok (P := P) (w := w) hx; exact ⟨_, _, rfl, .int _ _, by rw [binOp_xor]; exact hr⟩
  · cases hx

theorem shiftI_ok {op : BinOp} {t : TypeId} {k j : IntKind} {a b : Int} {x : OpR} (hop : op = .shl ∨ op = .shr) (hx : shiftI op k a b = some x) : ∃ v y, x = .val v ∧ VR φ v y ∧ (binOp op t (.int k a) (.int j b)).run P w = .ok y w := by
  unfold shiftI at hx
  split at hx
  · cases hx
  · rename_i hb
    have hb := of_decide_eq_false hb
    rcases hop with rfl | rfl
    · cases vInt_inv hx
      refine ⟨_, _, rfl, .int _ _, ?_⟩
      rw [binOp_shl]
      simp [Op.shift, hb]
    · cases vInt_inv hx
      refine ⟨_, _, rfl, .int _ _, ?_⟩
      rw [binOp_shr]
      simp [Op.shift, hb]

/-- What '==' is asked of. -/
inductive EqS (P : Program) (t : TypeId) : Value → Value → Prop where
  | bool (a b : Bool) : EqS P t (.bool a) (.bool b)
  | ptr (a b : Option Addr) : EqS P t (.pointer a) (.pointer b)
  | slice (a b : Option Addr) (n c m d : Nat) : EqS P t (.slice a n c) (.slice b m d)
  | map (a b : Option Nat) : EqS P t (.map a) (.map b)
  | fn (f : Fn) (a c : Array Value) : EqS P t (.func f a c) .nilFunc
  | nf (f : Fn) (a c : Array Value) : EqS P t .nilFunc (.func f a c)
  | nn : EqS P t .nilFunc .nilFunc
  | il (d : TypeId) (u : Value) : EqS P t (.iface d u) .nilIface
  | ir (d : TypeId) (u : Value) : EqS P t .nilIface (.iface d u)
  | agg (l m : Array Value) (h : P.eqGuardType P.depth t = false) : EqS P t (.agg l) (.agg m)

theorem eqVal_shape (EO : EnvOk P E) {t : TypeId} {a b : AV} {x y : Value} {q : Bool} (hx : VR φ a x) (hy : VR φ b y) (hq : eqVal E h t a b = some q) : EqS P t x y := by
  unfold eqVal at hq
  split at hq
  · split at hq
    all_goals try (cases hx <;> cases hy <;> constructor; done)
    · cases hx; cases hy
      split at hq
      · rename_i hg; rw [EO.gt] at hg; exact .agg _ _ hg
      · cases hq
    · cases hx; cases hy
      split at hq
      · rename_i hg; rw [EO.gt] at hg; exact .agg _ _ hg
      · cases hq
    · cases hq
  · cases hq

theorem EqS.run {t : TypeId} {x y : Value} (e : EqS P t x y) {q : Bool} {a b : Operand} (hr : (Op.equal t x y).run P w = .ok q w) :
    ((do eqGuard .eql t a b x y; binOp .eql t x y : Sem Value).run P w = .ok (.bool q) w) ∧ ((do eqGuard .neq t a b x y; binOp .neq t x y : Sem Value).run P w = .ok (.bool (!q)) w) := by
  cases e with
  | agg l m hg => constructor <;> simp [run_eqGuard_agg _ _ _ _ _ _ _ hg, binOp, hr]
  | _ => constructor <;> simp [eqGuard, binOp, hr]

theorem binA_ok (EO : EnvOk P E) (r : R N φ h w) {op : BinOp} {t : TypeId} {a b : Operand} {x y : AV} {x' y' : Value} {res : OpR} (hx : VR φ x x') (hy : VR φ y y')
    (hb : binA E h op t (isCst a || isCst b) x y = some res) : OpOk P N φ h w (vSem (do eqGuard op t a b x' y'; binOp op t x' y')) res := by
  unfold binA at hb
  split at hb
  · rename_i k m j n
    cases hx; cases hy
    have hg : ∀ (op : BinOp), (eqGuard op t a b (.int k m) (.int j n)).run P w = .ok () w := fun op => by
      have : eqGuard op t a b (.int k m) (.int j n) = pure () := by cases op <;> rfl
      rw [this]; rfl
    split at hb
    · obtain ⟨v, z, rfl, hv, hr⟩ := shiftI_ok (P := P) (w := w) (t := t) (φ := φ) (j := j) (.inl rfl) hb
      exact OpOk.pure (x := z) (by simp [hg, hr]) hv
    · obtain ⟨v, z, rfl, hv, hr⟩ := shiftI_ok (P := P) (w := w) (t := t) (φ := φ) (j := j) (.inr rfl) hb
      exact OpOk.pure (x := z) (by simp [hg, hr]) hv
    · split at hb
      · rename_i hk
        have hk := of_decide_eq_true hk
        subst hk
        obtain ⟨v, z, rfl, hv, hr⟩ := arith_ok (P := P) (w := w) (t := t) (φ := φ) hb
        exact OpOk.pure (x := z) (by simp [hg, hr]) hv
      · cases hb
  · rename_i s1 s2
    cases hx with
    | str u1 _ e1 =>
      cases hy with
      | str u2 _ e2 =>
        have hg : ∀ (op : BinOp), (eqGuard op t a b (.string u1) (.string u2)).run P w = .ok () w := fun op => by
          have : eqGuard op t a b (.string u1) (.string u2) = pure () := by cases op <;> rfl
          rw [this]; rfl
        split at hb
        · split at hb
          · rename_i hle
            cases vStr_inv hb
            have hle : s1.length + s2.length ≤ 1000000000 := by simpa using hle
            have l1 : u1.size = s1.length := by rw [← e1]; exact Array.length_toList.symm
            have l2 : u2.size = s2.length := by rw [← e2]; exact Array.length_toList.symm
            refine OpOk.pure (x := .string (u1 ++ u2)) ?_ (.str _ _ ?_)
            · simp only [Sem.run_bind, hg, Result.andThen_ok, binOp, Op.stringOp, Sem.run_ite]
              rw [if_neg (by rw [l1, l2]; simp [IntKind.max, IntKind.signed, IntKind.bits]; omega)]
              rfl
            · rw [← e1, ← e2]; simp
          · cases hb
        · cases vBool_inv hb
          refine OpOk.pure (x := .bool _) ?_ (.bool _)
          rw [← e1, ← e2, eqBytes_eq, beq_toListBytes]
          simp only [Sem.run_bind, hg, Result.andThen_ok, binOp, Op.stringOp]; rfl
        · cases vBool_inv hb
          refine OpOk.pure (x := .bool _) ?_ (.bool _)
          rw [← e1, ← e2, eqBytes_eq, beq_toListBytes]
          simp only [Sem.run_bind, hg, Result.andThen_ok, binOp, Op.stringOp]; rfl
        · cases hb
  · cases hx; cases hy
    have key : (isCst a || isCst b) = true → isIface E t = true → (∀ op, (eqGuard op t a b .nilIface .nilIface).run P w = .ok () w) ∧ (Op.equal t .nilIface .nilIface).run P w = .ok true w := by
      intro h1 h2
      refine ⟨fun op => ?_, ?_⟩
      · have : eqGuard op t a b .nilIface .nilIface = pure () := by
          cases a <;> cases b <;> first | (simp [isCst] at h1; done) | (cases op <;> rfl)
        rw [this]; rfl
      · unfold isIface at h2
        split at h2
        · rename_i i hi
          split at h2
          · rename_i hd
            show (Op.equalIn (9999 + 1) t .nilIface .nilIface).run P w = _
            generalize 9999 = d
            simp only [Op.equalIn, Sem.run_bind, EO.under hi, hd, Result.andThen_ok]
            rfl
          · cases h2
        · cases h2
    split at hb
    · rename_i hc
      cases vBool_inv hb
      rw [Bool.and_eq_true] at hc
      obtain ⟨h1, h2⟩ := key hc.1 hc.2
      exact OpOk.pure (x := .bool true) (by simp [h1, binOp, h2]) (.bool _)
    · rename_i hc
      cases vBool_inv hb
      rw [Bool.and_eq_true] at hc
      obtain ⟨h1, h2⟩ := key hc.1 hc.2
      exact OpOk.pure (x := .bool false) (by simp [h1, binOp, h2]) (.bool _)
    · cases hb
  · rename_i hn1 hn2 hn3
    split at hb
    · split at hb
      · rename_i q hq
        cases vBool_inv hb
        have hr := eqVal_ok EO r hx hy hq 9999 (by omega)
        exact OpOk.pure (x := .bool q) ((eqVal_shape EO hx hy hq).run hr).1 (.bool _)
      · cases hb
    · split at hb
      · rename_i q hq
        cases vBool_inv hb
        have hr := eqVal_ok EO r hx hy hq 9999 (by omega)
        exact OpOk.pure (x := .bool (!q)) ((eqVal_shape EO hx hy hq).run hr).2 (.bool _)
      · cases hb
    · cases hb
end
end Go.Abs
