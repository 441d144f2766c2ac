/- The abstract machine: a region in any order: each step; no conditions. -/
import Derived.Test.YtlidmkmjemoaeaaGreatDoorAbsF5
set_option linter.unusedVariables false
set_option linter.unusedSimpArgs false
set_option linter.unusedSectionVars false
namespace Go.Abs
variable [Opq]
open Go
section
variable {P : Program} {E : Env} {N : FuncId → Nat} {C : CallT} {nt : Nat} {rnd : Option Nat} {ops : Array Oper} {F : Nat → Fr} {D : Nat → List AD} {H : Nat → AHeap} {ss : List Seen} {φ₀ : Phi} {w₀ : World} {a₀ : Act}
  {S : Nat → Prop} {e i : Nat} {φ : Phi} {a : Act} {w : World} {o : Oper}

/-- The machine's step at an operation that yields a value and leaves all as it is. -/
theorem op_val (EO : EnvOk P E) (hC : COk P N C) {h : AHeap} {fr : Fr} (r : R N φ h w) (hf : FrR φ nt fr a.tmps) (ho : ops[i]? = some o) (hw : want ops fr o = some true) {v : AV} (hx : opA E h fr o.op = some (.val v)) {b : Frame} (hb : b.roundOf.isSome = rnd.isSome) (rest : List Nat) (k : List Item) (cs : List Frame) :
    ∃ x, VR φ v x ∧ Steps P (lone (b.atR a (.inRegion ops (i :: rest) :: k)) cs w) (lone (b.atR (a.put o.dst x) (.inRegion ops rest :: k)) cs w) := by
  have hok := opA_ok (N := N) (w := w) EO r hf hx
  have hg := stepGR_op (P := P) (b := b) (k := k) (cs := cs) (w := w) (rest := rest) ho (want_ok hf hw)
  have hfin : ∀ v, (b.atR a (.inRegion ops (i :: rest) :: k)).finish v = b.atR (a.put o.dst v) (.inRegion ops rest :: k) := by
    intro v; rw [Frame.finish_atR, ho]; rfl
  have hnd : o.semAt b.roundOf a.eval = execOp a.eval o := by
    refine Oper.semAt_eq _ _ _ fun c hc => ?_
    obtain ⟨dst, op, ty⟩ := o
    simp only at hc; subst hc
    have : deferOpA fr c = some (.val v) := hx
    unfold deferOpA at this
    split at this
    · obtain ⟨_, _, this⟩ := o1Inv this
      obtain ⟨_, _, this⟩ := oL_inv this
      unfold dfrOf at this
      split at this <;> cases this
    · cases this
  obtain ⟨x, hr, hv⟩ := hok
  rw [hnd] at hg
  refine ⟨x, hv, .one (step_lone_go ?_)⟩
  rw [hg, ← hfin]; simp [stepG.apply, hr]

/-- No block of an operation that is not done. -/
theorem InvH.unborn (X : Ctx P E N C nt rnd ops F D H ss φ₀ w₀ a₀) (s : InvS E ops F S e) (m : InvH E N ops F H φ₀ w₀ S e φ w) (hi : i < ops.size) (hS : ¬ S i) {b : Nat} {p : Loc} (hb : φ b = some p) : ¬ ((H i).next ≤ b ∧ b < (H (i + 1)).next) := by
  rintro ⟨h1, h2⟩
  rcases m.born b p hb with h | ⟨j, hj, h3, h4⟩
  · have := X.next_mono (i := 0) (j := i) (by omega) (by omega)
    omega
  · have := X.once hi (s.sn j hj) h1 h2 h3 h4
    exact hS (this ▸ hj)

theorem InvH.old (X : Ctx P E N C nt rnd ops F D H ss φ₀ w₀ a₀) (s : InvS E ops F S e) (m : InvH E N ops F H φ₀ w₀ S e φ w) (hi : i < ops.size) (hS : ¬ S i) {b : Nat} {p : Loc} (hb : φ b = some p) (h : b < (H (i + 1)).next) : b < (H i).next := by
  rcases Nat.lt_or_ge b (H i).next with h1 | h1
  · exact h1
  · exact absurd ⟨h1, h⟩ (m.unborn X s hi hS hb)

/-- A block more. -/
theorem InvH.alloc (X : Ctx P E N C nt rnd ops F D H ss φ₀ w₀ a₀) (s : InvS E ops F S e) (m : InvH E N ops F H φ₀ w₀ S e φ w) (hi : i < ops.size) (hS : ¬ S i) (ha : AL E ops F i) {g : AHeap} (hg : g.next = (H i).next) (hge : ∀ b, g.get b = none) {ob : AObj} (hn : H (i + 1) = (H i).new ob)
    {φ' : Phi} {w' : World} (sim : Sim N (φ.cut (H i).next) g w φ' (g.new ob) w') :
    ∃ ψ, φ.le ψ ∧ φ'.le (ψ.cut (H (i + 1)).next) ∧ InvH E N ops F H φ₀ w₀ (Also S i) e ψ w' := by
  have hne : ∀ p, φ (H i).next ≠ some p := fun p hp => m.unborn X s hi hS hp ⟨Nat.le_refl _, by rw [hn]; exact Nat.lt_succ_self _⟩
  have hnx : (H (i + 1)).next = (H i).next + 1 := by rw [hn]; rfl
  have hold : ∀ k, k < w.heap.size → w'.heap[k]? = w.heap[k]? := fun k hk => sim.wframe k hk fun b p o _ h2 => by rw [hge b] at h2; cases h2
  have hnew : ∀ c p, φ' c = some p → (c < (H i).next ∧ φ c = some p) ∨ (c = (H i).next ∧ w.heap.size ≤ p.blk) := by
    intro c p hc
    have hd := (sim.rel.dom c p hc).1
    rw [AHeap.next_new, hg] at hd
    rcases sim.new c p hc with h | ⟨h1, h2 | ⟨b₀, p₀, o₀, _, h3, _⟩⟩
    · exact .inl (Phi.cut_some h)
    · rw [hg] at h1; exact .inr ⟨by omega, h2⟩
    · rw [hge] at h3; cases h3
  let ψ : Phi := fun c => if c = (H i).next then φ' c else φ c
  have hψn : ∀ c, c ≠ (H i).next → ψ c = φ c := fun c h => if_neg h
  have hψb : ψ (H i).next = φ' (H i).next := if_pos rfl
  have hle : φ.le ψ := fun c p h => by
    rw [hψn c (fun e => hne p (e ▸ h))]; exact h
  have hle' : φ'.le (ψ.cut (H (i + 1)).next) := fun c p h => by
    refine Phi.cut_of ?_ ?_
    · rcases hnew c p h with ⟨h1, h2⟩ | ⟨h1, h2⟩
      · rw [hψn c (by omega)]; exact h2
      · subst h1; rw [hψb]; exact h
    · rcases hnew c p h with ⟨h1, h2⟩ | ⟨h1, h2⟩ <;> omega
  have hbo : ∀ p, ψ (H i).next = some p → w.heap.size ≤ p.blk ∧ ∀ o', (H (i + 1)).get (H i).next = some o' → ObjR N (ψ.cut (H (i + 1)).next) w' p o' := by
    intro p hp
    rw [hψb] at hp
    refine ⟨?_, fun o' ho' => ?_⟩
    · rcases hnew _ p hp with ⟨h1, _⟩ | ⟨_, h2⟩
      · omega
      · exact h2
    · rw [hn, AHeap.get_new, if_pos rfl] at ho'
      cases ho'
      refine (sim.rel.obj _ p ob hp ?_).mono hle'
      rw [AHeap.get_new, hg, if_pos rfl]
  refine ⟨ψ, hle, hle', ?_⟩
  constructor
  case dom =>
    intro b p hb
    by_cases e1 : b = (H i).next
    · subst e1; rw [hψb] at hb; exact (sim.rel.dom _ p hb).2
    · rw [hψn b e1] at hb
      exact Nat.lt_of_lt_of_le (m.dom b p hb) sim.size
  case born =>
    intro b p hb
    by_cases e1 : b = (H i).next
    · exact .inr ⟨i, .inr rfl, by omega, by omega⟩
    · rw [hψn b e1] at hb
      exact (m.born b p hb).imp id fun ⟨j, h1, h2⟩ => ⟨j, .inl h1, h2⟩
  case obj1 =>
    intro b p o' hb hbe ho'
    by_cases e1 : b = (H i).next
    · subst e1
      have hie : i < e := by
        rcases Nat.lt_or_ge i e with h | h
        · exact h
        · have := X.next_mono (i := e) (j := i) h (by omega); omega
      rw [m.unb i hie hS ha] at ho'
      exact ((hbo p hb).2 o' ho').mono (Phi.cut_mono _ (X.next_mono (i := i + 1) (j := e) (by omega) s.en))
    · rw [hψn b e1] at hb
      exact ((m.obj1 b p o' hb hbe ho').mono (Phi.cut_le_cut hle _)).of_heap (hold _ (m.dom b p hb))
  case obj2 =>
    intro b p o' j hb hbe hj h1 h2 ho'
    by_cases e1 : b = (H i).next
    · subst e1
      have : j = i := X.once hj hi h1 h2 (Nat.le_refl _) (by omega)
      subst this
      exact (hbo p hb).2 o' ho'
    · rw [hψn b e1] at hb
      exact ((m.obj2 b p o' j hb hbe hj h1 h2 ho').mono (Phi.cut_le_cut hle _)).of_heap (hold _ (m.dom b p hb))
  case inj =>
    intro b b' p p' o1 o2 hb hb' h1 h2 g1 g2 hp
    by_cases e1 : b = (H i).next
    · by_cases e2 : b' = (H i).next
      · rw [e1, e2]
      · rw [hψn b' e2] at hb'
        have := m.dom b' p' hb'
        have := (hbo p (e1 ▸ hb)).1
        omega
    · rw [hψn b e1] at hb
      by_cases e2 : b' = (H i).next
      · have := m.dom b p hb
        have := (hbo p' (e2 ▸ hb')).1
        omega
      · rw [hψn b' e2] at hb'
        exact m.inj b b' p p' o1 o2 hb hb' h1 h2 g1 g2 hp
  case sep =>
    intro b b' p p' hb hb' h1 hbb hp
    by_cases e1 : b = (H i).next
    · by_cases e2 : b' = (H i).next
      · exact hbb (e1.trans e2.symm)
      · rw [hψn b' e2] at hb'
        have := m.dom b' p' hb'
        have := (hbo p (e1 ▸ hb)).1
        omega
    · rw [hψn b e1] at hb
      by_cases e2 : b' = (H i).next
      · have := m.dom b p hb
        have := (hbo p' (e2 ▸ hb')).1
        omega
      · rw [hψn b' e2] at hb'
        exact m.sep b b' p p' hb hb' h1 hbb hp
  case unb => exact fun j h1 h2 h3 => m.unb j h1 (fun h => h2 (.inl h)) h3
  case le => exact fun b p h => hle b p (m.le b p h)
  case new =>
    intro b p hb
    by_cases e1 : b = (H i).next
    · have h1 := (hbo p (e1 ▸ hb)).1
      have h2 := X.next_mono (i := 0) (j := i) (by omega) (by omega)
      have h3 := m.size0
      exact .inr ⟨by omega, .inl (by omega)⟩
    · rw [hψn b e1] at hb
      exact m.new b p hb
  case wframe =>
    intro k hk h
    rw [hold k (Nat.lt_of_lt_of_le hk m.size0)]
    exact m.wframe k hk h
  case size0 => exact Nat.le_trans m.size0 sim.size
  case alike => exact ⟨sim.os.trans m.alike.1, sim.tape.trans m.alike.2.1, sim.output.trans m.alike.2.2⟩

/-- What is known ahead of the next effect. -/
theorem InvH.rel (X : Ctx P E N C nt rnd ops F D H ss φ₀ w₀ a₀) (s : InvS E ops F S e) (m : InvH E N ops F H φ₀ w₀ S e φ w) : R N (φ.cut (H e).next) (H e) w where
  dom := fun b p hb => ⟨(Phi.cut_some hb).1, m.dom b p (Phi.cut_some hb).2⟩
  obj := fun b p o hb ho => m.obj1 b p o (Phi.cut_some hb).2 (Phi.cut_some hb).1 ho
  inj := fun b b' p p' o o' hb hb' ho ho' hp => m.inj b b' p p' o o' (Phi.cut_some hb).2 (Phi.cut_some hb').2 (Phi.cut_some hb).1 (Phi.cut_some hb').1 ho ho' hp
  fresh := fun b hb => X.fresh s.en hb

/-- The next effect is done. -/
theorem InvH.effect (X : Ctx P E N C nt rnd ops F D H ss φ₀ w₀ a₀) (s : InvS E ops F S e) (m : InvH E N ops F H φ₀ w₀ S e φ w) (he : e < ops.size) (hS : ¬ S e) {e' : Nat} (hN : Nxt (WE E ops F) H ops.size (e + 1) e')
    {φ' : Phi} {w' : World} (sim : Sim N (φ.cut (H e).next) (H e) w φ' (H (e + 1)) w') :
    ∃ ψ, φ.le ψ ∧ φ'.le (ψ.cut (H (e + 1)).next) ∧ InvH E N ops F H φ₀ w₀ (Also S e) e' ψ w' := by
  obtain ⟨n1, n2, n3, n4⟩ := hN
  have hseg := (X.seg (p := e + 1) (q := e') n1 n2 n4).2
  have hmono := X.next_mono (i := e) (j := e + 1) (by omega) (by omega)
  have hmono' := X.next_mono (i := e + 1) (j := e') n1 n2
  let ψ : Phi := fun c => if c < (H (e + 1)).next then φ' c else φ c
  have hψ1 : ∀ c, c < (H (e + 1)).next → ψ c = φ' c := fun c h => if_pos h
  have hψ2 : ∀ c, (H (e + 1)).next ≤ c → ψ c = φ c := fun c h => if_neg (by omega)
  have hle : φ.le ψ := fun c p h => by
    rcases Nat.lt_or_ge c (H (e + 1)).next with h1 | h1
    · rw [hψ1 c h1]
      exact sim.le c p (Phi.cut_of h (m.old X s he hS h h1))
    · rw [hψ2 c h1]; exact h
  have hle' : φ'.le (ψ.cut (H (e + 1)).next) := fun c p h => by
    have hd := (sim.rel.dom c p h).1
    refine Phi.cut_of ?_ hd
    rw [hψ1 c hd]; exact h
  -- a block that was made early lies apart
  have hsep : ∀ b b' p p', ψ b = some p → ψ b' = some p' → (H (e + 1)).next ≤ b → b ≠ b' → p.blk ≠ p'.blk := by
    intro b b' p p' hb hb' h1 hbb hp
    rw [hψ2 b h1] at hb
    rcases Nat.lt_or_ge b' (H (e + 1)).next with h2 | h2
    · rw [hψ1 b' h2] at hb'
      rcases sim.new b' p' hb' with h3 | ⟨h3, h4 | ⟨b₀, p₀, o₀, h5, h6, h7⟩⟩
      · exact m.sep b b' p p' hb (Phi.cut_some h3).2 (by omega) hbb hp
      · have := m.dom b p hb; omega
      · refine m.sep b b₀ p p₀ hb (Phi.cut_some h5).2 (by omega) ?_ (hp.trans h7.symm)
        have := (Phi.cut_some h5).1; omega
    · rw [hψ2 b' h2] at hb'
      exact m.sep b b' p p' hb hb' (by omega) hbb hp
  have hold : ∀ b p, φ b = some p → (H (e + 1)).next ≤ b → w'.heap[p.blk]? = w.heap[p.blk]? := fun b p hb h1 => by
    refine sim.wframe _ (m.dom b p hb) fun c q o' hc _ hq => ?_
    refine m.sep b c p q hb (Phi.cut_some hc).2 (by omega) ?_ hq.symm
    have := (Phi.cut_some hc).1; omega
  have hbirth : ∀ b p, φ b = some p → (H (e + 1)).next ≤ b → ∃ j, j < ops.size ∧ e < j ∧ (H j).next ≤ b ∧ b < (H (j + 1)).next := fun b p hb h1 => by
    rcases m.born b p hb with h | ⟨j, hj, h3, h4⟩
    · have := X.next_mono (i := 0) (j := e + 1) (by omega) (by omega); omega
    · refine ⟨j, s.sn j hj, ?_, h3, h4⟩
      rcases Nat.lt_or_ge e j with h | h
      · exact h
      · have := X.next_mono (i := j + 1) (j := e + 1) (by omega) (by omega); omega
  refine ⟨ψ, hle, hle', ?_⟩
  constructor
  case dom =>
    intro b p hb
    rcases Nat.lt_or_ge b (H (e + 1)).next with h1 | h1
    · rw [hψ1 b h1] at hb; exact (sim.rel.dom b p hb).2
    · rw [hψ2 b h1] at hb; exact Nat.lt_of_lt_of_le (m.dom b p hb) sim.size
  case born =>
    intro b p hb
    rcases Nat.lt_or_ge b (H (e + 1)).next with h1 | h1
    · rw [hψ1 b h1] at hb
      rcases sim.new b p hb with h3 | ⟨h3, _⟩
      · exact (m.born b p (Phi.cut_some h3).2).imp id fun ⟨j, h1, h2⟩ => ⟨j, .inl h1, h2⟩
      · exact .inr ⟨e, .inr rfl, h3, h1⟩
    · rw [hψ2 b h1] at hb
      exact (m.born b p hb).imp id fun ⟨j, h1, h2⟩ => ⟨j, .inl h1, h2⟩
  case obj1 =>
    intro b p o' hb hbe ho'
    rcases Nat.lt_or_ge b (H (e + 1)).next with h1 | h1
    · rw [hψ1 b h1] at hb
      rw [hseg b h1] at ho'
      exact ((sim.rel.obj b p o' hb ho').mono hle').mono (Phi.cut_mono _ hmono')
    · rw [hψ2 b h1] at hb
      obtain ⟨j, hj, hej, h3, h4⟩ := hbirth b p hb h1
      have hje : j < e' := by
        rcases Nat.lt_or_ge j e' with h | h
        · exact h
        · have := X.next_mono (i := e') (j := j) h (by omega); omega
      have hs2 := (X.seg (p := j + 1) (q := e') (by omega) n2 fun k k1 k2 => n4 k (by omega) k2).2 b h4
      rw [hs2] at ho'
      have := m.obj2 b p o' j hb (by omega) hj h3 h4 ho'
      exact ((this.of_heap (hold b p hb h1)).mono (Phi.cut_le_cut hle _)).mono (Phi.cut_mono _ (X.next_mono (by omega) n2))
  case obj2 =>
    intro b p o' j hb hbe hj h1 h2 ho'
    have hb1 : (H (e + 1)).next ≤ b := by omega
    rw [hψ2 b hb1] at hb
    exact ((m.obj2 b p o' j hb (by omega) hj h1 h2 ho').of_heap (hold b p hb hb1)).mono (Phi.cut_le_cut hle _)
  case inj =>
    intro b b' p p' o1 o2 hb hb' h1 h2 g1 g2 hp
    rcases Nat.lt_or_ge b (H (e + 1)).next with k1 | k1
    · rcases Nat.lt_or_ge b' (H (e + 1)).next with k2 | k2
      · rw [hψ1 b k1] at hb; rw [hψ1 b' k2] at hb'
        rw [hseg b k1] at g1; rw [hseg b' k2] at g2
        exact sim.rel.inj b b' p p' o1 o2 hb hb' g1 g2 hp
      · rcases Nat.decEq b b' with h | h
        · exact absurd hp.symm (hsep b' b p' p hb' hb k2 (fun e => h e.symm))
        · exact h
    · rcases Nat.decEq b b' with h | h
      · exact absurd hp (hsep b b' p p' hb hb' k1 h)
      · exact h
  case sep => exact fun b b' p p' hb hb' h1 hbb => hsep b b' p p' hb hb' (by omega) hbb
  case unb =>
    intro j hj hSj hA
    have hje : j ≠ e := fun h => hSj (.inr h)
    have hSj' : ¬ S j := fun h => hSj (.inl h)
    have hjn : j < ops.size := by omega
    have hnext : (H (j + 1)).next = (H j).next + 1 := by
      have hq : ¬ WE E ops F j := by
        rintro ⟨o1, h1, _, h2⟩
        obtain ⟨o2, h3, _, h4⟩ := hA
        rw [h1] at h3; cases h3; rw [h2] at h4; cases h4
      obtain ⟨o', ho', hw', hc'⟩ := hA
      cases X.st j o' ho' with
      | skip hw _ _ _ => rw [hw] at hw'; cases hw'
      | pure _ _ hc _ _ _ _ => rw [hc] at hc'; cases hc'
      | look _ _ hc _ _ _ _ _ => rw [hc] at hc'; cases hc'
      | alloc v _ hc hx _ _ => obtain ⟨ob, h1, _⟩ := alloc_spec hc hx; rw [h1]; rfl
      | eff _ _ _ _ hc _ _ _ _ => rw [hc] at hc'; cases hc'
    rcases Nat.lt_or_ge j e with h | h
    · have k1 := X.next_mono (i := j + 1) (j := e) (by omega) s.en
      rw [hseg _ (by omega), ← m.unb j h hSj' hA]
      refine sim.hframe _ (by omega) ?_
      cases hc : φ.cut (H e).next (H j).next with
      | none => rfl
      | some p => exact absurd ⟨Nat.le_refl _, by omega⟩ (m.unborn X s hjn hSj' (Phi.cut_some hc).2)
    · exact (X.seg (p := j + 1) (q := e') (by omega) n2 fun k k1 k2 => n4 k (by omega) k2).2 _ (by omega)
  case le => exact fun b p h => hle b p (m.le b p h)
  case new =>
    intro b p hb
    rcases Nat.lt_or_ge b (H (e + 1)).next with h1 | h1
    · rw [hψ1 b h1] at hb
      rcases sim.new b p hb with h3 | ⟨h3, h4⟩
      · exact m.new b p (Phi.cut_some h3).2
      · have k0 := X.next_mono (i := 0) (j := e) (by omega) s.en
        refine .inr ⟨by omega, ?_⟩
        rcases h4 with h4 | ⟨b₀, p₀, o₀, h5, h6, h7⟩
        · exact .inl (Nat.le_trans m.size0 h4)
        · rcases m.new b₀ p₀ (Phi.cut_some h5).2 with h8 | ⟨_, h8 | ⟨b₁, p₁, o₁, h9, h10, h11⟩⟩
          · cases hg : (H 0).get b₀ with
            | none => rw [X.live0 s.en (X.r0.dom _ _ h8).1 hg] at h6; cases h6
            | some o' => exact .inr ⟨b₀, p₀, o', h8, hg, h7⟩
          · exact .inl (h7 ▸ h8)
          · exact .inr ⟨b₁, p₁, o₁, h9, h10, h11.trans h7⟩
    · rw [hψ2 b h1] at hb
      exact m.new b p hb
  case wframe =>
    intro k hk h
    rw [sim.wframe k (Nat.lt_of_lt_of_le hk m.size0) ?_]
    · exact m.wframe k hk h
    · intro c q o' hc hg hq
      rcases m.new c q (Phi.cut_some hc).2 with h8 | ⟨_, h8 | ⟨b₁, p₁, o₁, h9, h10, h11⟩⟩
      · cases hg' : (H 0).get c with
        | none => rw [X.live0 s.en (X.r0.dom _ _ h8).1 hg'] at hg; cases hg
        | some o' => exact h c q o' h8 hg' hq
      · omega
      · exact h b₁ p₁ o₁ h9 h10 (h11.trans hq)
  case size0 => exact Nat.le_trans m.size0 sim.size
  case alike => exact ⟨sim.os.trans m.alike.1, sim.tape.trans m.alike.2.1, sim.output.trans m.alike.2.2⟩

theorem InvS.effect (X : Ctx P E N C nt rnd ops F D H ss φ₀ w₀ a₀) (s : InvS E ops F S e) (he : e < ops.size) (hr : ∀ j, Edge1 ops j e → S j) {e' : Nat} (hN : Nxt (WE E ops F) H ops.size (e + 1) e') : InvS E ops F (Also S e) e' where
  sn := fun j h => h.elim (s.sn j) fun h => h ▸ he
  closed := fun j k h hk => h.elim (fun h => .inl (s.closed j k h hk)) fun h => .inl (hr k (h ▸ hk))
  en := hN.2.1
  eW := hN.2.2.1
  eS := fun j hj => by
    have h1 := s.eS j hj
    constructor
    · rintro (h | h)
      · have := h1.1 h; have := hN.1; omega
      · have := hN.1; omega
    · intro h
      by_cases hje : j = e
      · exact .inr hje
      · rcases Nat.lt_or_ge j e with h2 | h2
        · exact .inl (h1.2 h2)
        · exact absurd hj (hN.2.2.2 j (by omega) h)

end
end Go.Abs
