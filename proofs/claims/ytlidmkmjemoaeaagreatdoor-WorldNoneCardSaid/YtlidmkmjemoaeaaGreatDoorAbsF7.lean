/- The abstract machine: a region in any order, walked to its end; no conditions. -/
import Derived.Test.YtlidmkmjemoaeaaGreatDoorAbsF6
set_option linter.unusedVariables false
set_option linter.unusedSimpArgs false
set_option linter.unusedSectionVars false
namespace Go.Abs
variable [Opq]
open Go

theorem Nxt.ex (W : Nat → Prop) (H : Nat → AHeap) {n : Nat} : ∀ (d i : Nat), i + d = n → ∃ e, Nxt W H n i e
  | 0, i, h => ⟨n, by omega, Nat.le_refl _, fun h => absurd h (Nat.lt_irrefl _), fun j h1 h2 => by omega⟩
  | d + 1, i, h => by
    by_cases hw : W i
    · exact ⟨i, Nat.le_refl _, by omega, fun _ => hw, fun j h1 h2 => by omega⟩
    · obtain ⟨e, h1, h2, h3, h4⟩ := Nxt.ex W H (n := n) d (i + 1) (by omega)
      refine ⟨e, by omega, h2, h3, fun j k1 k2 => ?_⟩
      by_cases e1 : j = i
      · exact e1 ▸ hw
      · exact h4 j (by omega) k2

theorem Nxt.uniq {W : Nat → Prop} {H : Nat → AHeap} {n i e e' : Nat} (h : Nxt W H n i e) (h' : Nxt W H n i e') : e = e' := by
  obtain ⟨a1, a2, a3, a4⟩ := h
  obtain ⟨b1, b2, b3, b4⟩ := h'
  rcases Nat.lt_trichotomy e e' with h | h | h
  · exact absurd (a3 (by omega)) (b4 e a1 h)
  · exact h
  · exact absurd (b3 (by omega)) (a4 e' b1 h)

/-- the last one before -/
theorem lastW (W : Nat → Prop) : ∀ (d i e : Nat), i + d = e → (∃ j, i ≤ j ∧ j < e ∧ W j) → ∃ j, i ≤ j ∧ j < e ∧ W j ∧ ∀ k, j < k → k < e → ¬ W k
  | 0, i, e, h, ⟨j, h1, h2, _⟩ => by omega
  | d + 1, i, e, h, hx => by
    by_cases hr : ∃ j, i + 1 ≤ j ∧ j < e ∧ W j
    · obtain ⟨j, h1, h2, h3, h4⟩ := lastW W d (i + 1) e (by omega) hr
      exact ⟨j, by omega, h2, h3, h4⟩
    · obtain ⟨j, h1, h2, h3⟩ := hx
      have : j = i := by
        rcases Nat.lt_or_ge i j with h | h
        · exact absurd ⟨j, h, h2, h3⟩ hr
        · omega
      subst this
      exact ⟨j, h1, h2, h3, fun k k1 k2 hk => hr ⟨k, k1, k2, hk⟩⟩

section
variable {P : Program} {E : Env} {N : FuncId → Nat} {C : CallT} {nt : Nat} {rnd : Option Nat} {ops : Array Oper} {F : Nat → Fr} {D : Nat → List AD} {H : Nat → AHeap} {ss : List Seen} {φ₀ : Phi} {w₀ : World} {a₀ : Act}
  {S : Nat → Prop} {e i : Nat} {φ : Phi} {a : Act} {w : World} {o : Oper}

theorem Ctx.look (X : Ctx P E N C nt rnd ops F D H ss φ₀ w₀ a₀) (s : InvS E ops F S e) (ho : ops[i]? = some o) (hS : ¬ S i) (hr : ∀ j, Edge1 ops j i → S j) (hc : cls E o.op = .look) {v : AV} (hx : opA E (H i) (F i) o.op = some (.val v)) (hs : (⟨i, o.op, F i, v⟩ : Seen) ∈ ss) :
    opA E (H e) (F i) o.op = some (.val v) := by
  have hin : i < ops.size := (Array.getElem?_eq_some_iff.1 ho).1
  have hni : ¬ WE E ops F i := by
    rintro ⟨o', h1, _, h2⟩
    rw [ho] at h1; cases h1; rw [hc] at h2; cases h2
  rcases Nat.lt_or_ge e i with h | h
  · -- an effect is still to come that stands ahead in the text
    have hen : e < ops.size := by omega
    rcases X.sn _ hs e hen (s.eW hen) with h1 | ⟨h1, _⟩
    · simp only at h1
      rw [if_pos (by omega)] at h1
      have hSe := h1.closed s.closed hr
      have := (s.eS e (s.eW hen)).1 hSe
      omega
    · exact h1
  · by_cases hq : ∃ j, i ≤ j ∧ j < e ∧ WE E ops F j
    · obtain ⟨j, h1, h2, h3, h4⟩ := lastW (WE E ops F) (e - i) i e (by omega) hq
      have hji : j ≠ i := fun h => hni (h ▸ h3)
      have hSj : S j := (s.eS j h3).2 h2
      have hen := s.en
      rcases X.sn _ hs j (by omega) h3 with h5 | ⟨_, e', h6, h7⟩
      · simp only at h5
        rw [if_neg (by omega)] at h5
        exact absurd (h5.closed s.closed fun k hk => s.closed j k hSj hk) hS
      · have hNe : Nxt (WE E ops F) H ops.size (j + 1) e := ⟨h2, hen, s.eW, fun k k1 k2 => h4 k (by omega) k2⟩
        rw [hNe.uniq h6]; exact h7
    · refine look_spec hc (fun b ob hb => ?_) hx
      have hlt : b < (H i).next := by
        rcases Nat.lt_or_ge b (H i).next with h1 | h1
        · exact h1
        · rw [X.fresh (by omega) h1] at hb; cases hb
      rw [(X.seg (p := i) (q := e) h s.en fun j k1 k2 hW => hq ⟨j, k1, k2, hW⟩).2 b hlt]
      exact hb

theorem AdR.nil_inv {l : List Deferred} (h : AdR φ [] l) : l = [] := by cases h; rfl
theorem put_defers (a : Act) (dst : Option Nat) (x : Value) : (a.put dst x).defers = a.defers := by cases dst <;> rfl

/-- One operation whose turn has come. -/
theorem draw_step (X : Ctx P E N C nt rnd ops F D H ss φ₀ w₀ a₀) (s : InvS E ops F S e) (f : InvF nt ops F H S φ a) (m : InvH E N ops F H φ₀ w₀ S e φ w) (d : AdR (φ.cut (H e).next) (D e) a.defers) (ho : ops[i]? = some o) (hS : ¬ S i) (hr : ∀ j, Edge1 ops j i → S j)
    {b : Frame} (hb : b.roundOf.isSome = rnd.isSome) (rest : List Nat) (k : List Item) (cs : List Frame) :
    ∃ e' φ' a' w', InvS E ops F (Also S i) e' ∧ InvF nt ops F H (Also S i) φ' a' ∧ InvH E N ops F H φ₀ w₀ (Also S i) e' φ' w' ∧ AdR (φ'.cut (H e').next) (D e') a'.defers ∧
      Steps P (lone (b.atR a (.inRegion ops (i :: rest) :: k)) cs w) (lone (b.atR a' (.inRegion ops rest :: k)) cs w') := by
  have hin : i < ops.size := (Array.getElem?_eq_some_iff.1 ho).1
  have hrd := f.reads X s ho hS hr
  have hstep := X.st i o ho
  have rcut : ∀ g : AHeap, g.next = (H i).next → (∀ b, g.get b = none) → R N (φ.cut (H i).next) g w := fun g hg hg0 =>
    ⟨fun b p hb => ⟨by rw [hg]; exact (Phi.cut_some hb).1, m.dom b p (Phi.cut_some hb).2⟩, fun b p o _ h => (by rw [hg0] at h; cases h), fun b b' p p' o o' _ _ h => (by rw [hg0] at h; cases h), fun b _ => hg0 b⟩
  let g : AHeap := ⟨.lf, (H i).next⟩
  have hg0 : ∀ b, g.get b = none := fun b => PT.get_lf b
  have hgr := rcut g rfl hg0
  have notW : (∀ o', ops[i]? = some o' → want ops (F i) o' = some true → cls E o'.op = .eff → False) → ¬ WE E ops F i := fun h ⟨o', h1, h2, h3⟩ => h o' h1 h2 h3
  cases hstep with
  | skip hw hf hd hh =>
    have hni : ¬ WE E ops F i := notW fun o' h1 h2 h3 => by rw [ho] at h1; cases h1; rw [hw] at h2; cases h2
    have hw' := want_ok hrd (rfr_want.trans hw)
    refine ⟨e, φ, a.put o.dst undef, w, s.also hin hr hni, f.put X ho hS hf fun _ _ => .tuple _ _ .nil, m.also, by rw [put_defers]; exact d, .one ?_⟩
    have := stepR_op_skip (P := P) (b := b) (a := a) (k := k) (cs := cs) (w := w) (ops := ops) (i := i) (rest := rest) (by simp [ho, hw'])
    rw [ho] at this
    exact this
  | pure v hw hc hx hf hd hh =>
    have hni : ¬ WE E ops F i := notW fun o' h1 h2 h3 => by rw [ho] at h1; cases h1; rw [hc] at h3; cases h3
    obtain ⟨x, hv, hsteps⟩ := op_val (rnd := rnd) X.EO X.hC hgr hrd ho (rfr_want.trans hw) ((rfr_opA g).trans ((pure_spec hc g).trans hx)) hb rest k cs
    exact ⟨e, φ, a.put o.dst x, w, s.also hin hr hni, f.put X ho hS hf fun _ _ => by rw [hh]; exact hv, m.also, by rw [put_defers]; exact d, hsteps⟩
  | look v hw hc hx hf hd hh hsn =>
    have hni : ¬ WE E ops F i := notW fun o' h1 h2 h3 => by rw [ho] at h1; cases h1; rw [hc] at h3; cases h3
    have hxe := X.look s ho hS hr hc hx hsn
    let h' : AHeap := ⟨(H e).t, (H ops.size).next⟩
    have hget : ∀ b, h'.get b = (H e).get b := fun b => rfl
    have hmn : ∀ j, j ≤ ops.size → (H j).next ≤ (H ops.size).next := fun j hj => X.next_mono hj (Nat.le_refl _)
    have hr' : R N φ h' w := by
      have hlive : ∀ b o, (H e).get b = some o → b < (H e).next := fun b o h => by
        rcases Nat.lt_or_ge b (H e).next with h1 | h1
        · exact h1
        · rw [X.fresh s.en h1] at h; cases h
      refine ⟨fun b p hb => ⟨?_, m.dom b p hb⟩, fun b p o' hb h => ?_, fun b b' p p' o o' hb hb' h h' hp => ?_, fun b hb => X.fresh s.en (Nat.le_trans (hmn e s.en) hb)⟩
      · rcases m.born b p hb with h | ⟨j, hj, _, h4⟩
        · exact Nat.lt_of_lt_of_le h (hmn 0 (by omega))
        · exact Nat.lt_of_lt_of_le h4 (hmn (j + 1) (s.sn j hj))
      · exact (m.obj1 b p o' hb (hlive _ _ h) h).mono (Phi.cut_le _ _)
      · exact m.inj b b' p p' o o' hb hb' (hlive _ _ h) (hlive _ _ h') h h' hp
    have hx' : opA E h' (F i) o.op = some (.val v) := look_spec (h := H e) (h' := h') hc (fun b ob hb => hb) hxe
    obtain ⟨x, hv, hsteps⟩ := op_val (rnd := rnd) X.EO X.hC hr' (hrd.mono (Phi.cut_le _ _)) ho (rfr_want.trans hw) ((rfr_opA h').trans hx') hb rest k cs
    refine ⟨e, φ, a.put o.dst x, w, s.also hin hr hni, f.put X ho hS hf fun t ht => ?_, m.also, by rw [put_defers]; exact d, hsteps⟩
    have hgt : (F (i + 1)).get t = some v := by rw [setD_get hf, if_pos ht]
    obtain ⟨φg, xg, hvg, hlt⟩ := X.bel (i := i + 1) (by omega) hgt
    exact VR.cut hlt hv hvg
  | alloc v hw hc hx hf hd =>
    have hni : ¬ WE E ops F i := notW fun o' h1 h2 h3 => by rw [ho] at h1; cases h1; rw [hc] at h3; cases h3
    obtain ⟨ob, hn, hall⟩ := alloc_spec hc hx
    have hxg := hall g rfl
    obtain ⟨x, φ', w', Dd, g1, g2, g3, g4⟩ := op_step (rnd := rnd) X.EO X.hC hgr hrd ho (want_ok hrd (rfr_want.trans hw)) ((rfr_opA g).trans hxg) rfl hb rest k cs
    obtain ⟨ψ, hle, hle', m'⟩ := m.alloc (g := g) X s hin hS ⟨o, ho, hw, hc⟩ rfl hg0 hn g2
    have := g3.nil_inv
    subst this
    refine ⟨e, ψ, a.put o.dst x, w', s.also hin hr hni, (f.mono hle).put X ho hS hf fun _ _ => g1.mono hle', m', ?_, g4⟩
    rw [put_defers]
    exact d.mono (Phi.cut_le_cut hle _)
  | eff y v dd hw hc hx hy hf hd =>
    have hW : WE E ops F i := ⟨o, ho, hw, hc⟩
    have hei : e = i := by
      have h1 : ¬ i < e := fun h => hS ((s.eS i hW).2 h)
      rcases Nat.lt_or_ge e i with h | h
      · exfalso
        have hen : e < ops.size := by omega
        obtain ⟨o1, p1, p2, p3⟩ := s.eW hen
        rcases X.RO.pair e i o1 o h p1 ho with hbf | ⟨h2, _⟩
        · have := (s.eS e (s.eW hen)).1 (hbf.closed s.closed hr)
          omega
        · exact h2 (by rw [p3]; rfl) (by rw [hc]; rfl)
      · omega
    subst hei
    obtain ⟨x, φ', w', Dd, g1, g2, g3, g4⟩ := op_step (rnd := rnd) X.EO X.hC (m.rel X s) hrd ho (want_ok hrd (rfr_want.trans hw)) ((rfr_opA (H e)).trans hx) hy hb rest k cs
    obtain ⟨e', hN⟩ := Nxt.ex (WE E ops F) H (n := ops.size) (ops.size - (e + 1)) (e + 1) (by omega)
    obtain ⟨ψ, hle, hle', m'⟩ := m.effect X s hin hS hN g2
    refine ⟨e', ψ, { a with defers := Dd ++ a.defers }.put o.dst x, w', s.effect X hin hr hN, InvF.put (a := { a with defers := Dd ++ a.defers }) X (f.mono hle).defers ho hS hf fun _ _ => g1.mono hle', m', ?_, g4⟩
    rw [put_defers]
    have hsd := (X.seg (p := e + 1) (q := e') hN.1 hN.2.1 hN.2.2.2).1
    rw [hsd, hd]
    have q1 := X.next_mono (i := e + 1) (j := e') hN.1 hN.2.1
    have q2 := X.next_mono (i := e) (j := e + 1) (by omega) (by omega)
    exact (g3.mono fun c p h => Phi.cut_mono _ (Nat.le_trans q2 q1) _ _ (Phi.cut_le_cut hle _ _ _ h)).cons1 (d.mono fun c p h => Phi.cut_mono _ (Nat.le_trans q2 q1) _ _ (Phi.cut_le_cut hle _ _ _ h))

theorem count_set : ∀ (l : List Bool) (i : Nat), l[i]? = some false → (l.set i true).count false + 1 = l.count false
  | [], i, h => by simp at h
  | b :: l, 0, h => by
    simp at h; subst h
    simp
  | b :: l, i + 1, h => by
    simp at h
    have := count_set l i h
    cases b <;> simp <;> omega

/-- The operations in any order. -/
theorem draw_run (X : Ctx P E N C nt rnd ops F D H ss φ₀ w₀ a₀) {b : Frame} (hb : b.roundOf.isSome = rnd.isSome) (k : List Item) (cs : List Frame) :
    ∀ (fuel t : Nat) (listed : Array Bool) (S : Nat → Prop) (e : Nat) (φ : Phi) (a : Act) (w : World), InvS E ops F S e → InvF nt ops F H S φ a → InvH E N ops F H φ₀ w₀ S e φ w → AdR (φ.cut (H e).next) (D e) a.defers →
      listed.size = ops.size → (∀ j, j < ops.size → (listed[j]? = some true ↔ S j)) → listed.toList.count false ≤ fuel →
      ∃ S' e' φ' a' w', (∀ j, j < ops.size → S' j) ∧ InvS E ops F S' e' ∧ InvF nt ops F H S' φ' a' ∧ InvH E N ops F H φ₀ w₀ S' e' φ' w' ∧ AdR (φ'.cut (H e').next) (D e') a'.defers ∧
        Steps P (lone (b.atR a (.inRegion ops (Region.linearise.go .any ops fuel t listed []) :: k)) cs w) (lone (b.atR a' (.inRegion ops [] :: k)) cs w')
  | 0, t, listed, S, e, φ, a, w, s, f, m, d, hsz, hls, hcnt => by
    refine ⟨S, e, φ, a, w, fun j hj => ?_, s, f, m, d, ?_⟩
    · rw [← hls j hj]
      have hc : listed.toList.count false = 0 := by omega
      rw [List.count_eq_zero] at hc
      have hj' : j < listed.size := by omega
      have : listed[j]? = some listed[j] := Array.getElem?_eq_getElem hj'
      rw [this]
      cases hv : listed[j] with
      | true => rfl
      | false => exact absurd (by rw [← hv]; simp) hc
    · have : Region.linearise.go .any ops 0 t listed [] = [] := rfl
      rw [this]
      exact Steps.refl _ _
  | fuel + 1, t, listed, S, e, φ, a, w, s, f, m, d, hsz, hls, hcnt => by
    have hgo : Region.linearise.go .any ops (fuel + 1) t listed [] = (match (Region.ready .any ops listed)[t % (Region.ready .any ops listed).length]? with
      | some i => Region.linearise.go .any ops fuel (t / (Region.ready .any ops listed).length) (listed.setIfInBounds i true) [i]
      | none => [].reverse) := rfl
    have hget : ∀ j, j < ops.size → (S j ↔ listed.getD j true = true) ∧ (S j ↔ listed.getD j false = true) := fun j hj => by
      have hj' : j < listed.size := by omega
      have h1 : listed[j]? = some listed[j] := Array.getElem?_eq_getElem hj'
      have h2 := hls j hj
      rw [h1] at h2
      constructor <;> (rw [← h2]; simp [Array.getD_eq_getD_getElem?, h1])
    have hready : ∀ i, i ∈ Region.ready .any ops listed → i < ops.size ∧ ¬ S i ∧ ∀ j, Edge1 ops j i → S j := fun i hi => by
      obtain ⟨h1, o, ho, h2⟩ := mem_ready.1 hi
      have hin : i < ops.size := (Array.getElem?_eq_some_iff.1 ho).1
      refine ⟨hin, fun h => ?_, fun j hj => ?_⟩
      · rw [(hget i hin).1.1 h] at h1; cases h1
      · have hji := X.RO.back j i hj
        obtain ⟨o', ed, ho', he, hbd, rfl⟩ := hj
        rw [ho] at ho'; cases ho'
        exact (hget _ (by omega)).2.2 (h2 ed (by simpa using he) hbd)
    rw [hgo]
    cases hi : (Region.ready .any ops listed)[t % (Region.ready .any ops listed).length]? with
    | none =>
      have hnil : Region.ready .any ops listed = [] := by
        cases hr : Region.ready .any ops listed with
        | nil => rfl
        | cons x xs =>
          rw [hr] at hi
          have hlt : t % (x :: xs).length < (x :: xs).length := Nat.mod_lt _ (by simp)
          simp at hi
          simp at hlt
          omega
      have hall : ∀ j, j < ops.size → S j := by
        intro j
        induction j using Nat.strongRecOn with
        | _ j ih =>
          intro hj
          by_cases hSj : S j
          · exact hSj
          · exfalso
            have : j ∈ Region.ready .any ops listed := mem_ready.2 ⟨?_, ops[j], Array.getElem?_eq_getElem hj, fun ed he hbd => ?_⟩
            · rw [hnil] at this; cases this
            · cases hv : listed.getD j true with
              | false => rfl
              | true => exact absurd ((hget j hj).1.2 hv) hSj
            · have hlt := X.RO.back ed.on j ⟨ops[j], ed, Array.getElem?_eq_getElem hj, by simpa using he, hbd, rfl⟩
              exact (hget _ (by omega)).2.1 (ih _ hlt (by omega))
      exact ⟨S, e, φ, a, w, hall, s, f, m, d, Steps.refl _ _⟩
    | some i =>
      simp only
      obtain ⟨hin, hSi, hr⟩ := hready i (List.mem_of_getElem? hi)
      have ho : ops[i]? = some ops[i] := Array.getElem?_eq_getElem hin
      rw [linearise_go_acc, List.reverse_singleton, List.singleton_append]
      obtain ⟨e₁, φ₁, a₁, w₁, s₁, f₁, m₁, d₁, hsteps⟩ := draw_step X s f m d ho hSi hr hb (Region.linearise.go .any ops fuel (t / (Region.ready .any ops listed).length) (listed.setIfInBounds i true) []) k cs
      have hil : i < listed.size := by omega
      have hfalse : listed[i]? = some false := by
        have h1 : listed[i]? = some listed[i] := Array.getElem?_eq_getElem hil
        rw [h1]
        cases hv : listed[i] with
        | false => rfl
        | true => exact absurd ((hls i hin).1 (by rw [h1, hv])) hSi
      obtain ⟨S', e', φ', a', w', q1, q2, q3, q4, q5, q6⟩ := draw_run X hb k cs fuel (t / (Region.ready .any ops listed).length) (listed.setIfInBounds i true) (Also S i) e₁ φ₁ a₁ w₁ s₁ f₁ m₁ d₁ (by simpa using hsz)
        (fun j hj => by
          rw [Array.getElem?_setIfInBounds]
          by_cases hij : i = j
          · subst hij; simp [hil, Also]
          · rw [if_neg hij, hls j hj]
            exact ⟨.inl, fun h => h.resolve_right fun h => hij h.symm⟩)
        (by
          have := count_set listed.toList i (by simpa using hfalse)
          have h2 : (listed.setIfInBounds i true).toList = listed.toList.set i true := by simp
          rw [h2]; omega)
      exact ⟨S', e', φ', a', w', q1, q2, q3, q4, q5, Steps.trans hsteps q6⟩

/-- A region in any order. -/
theorem draw_ok (X : Ctx P E N C nt rnd ops F D H ss φ₀ w₀ a₀) {b : Frame} (hb : b.roundOf.isSome = rnd.isSome) (k : List Item) (cs : List Frame) (t : Nat) :
    ∃ φ' w' a', Sim N φ₀ (H 0) w₀ φ' (H ops.size) w' ∧ FrR φ' nt (F ops.size) a'.tmps ∧ AdR φ' (D ops.size) a'.defers ∧
      Steps P (lone (b.atR a₀ (.inRegion ops (Region.linearise .any ops t) :: k)) cs w₀) (lone (b.atR a' (.inRegion ops [] :: k)) cs w') := by
  obtain ⟨e, hN⟩ := Nxt.ex (WE E ops F) H (n := ops.size) ops.size 0 (by omega)
  have c0 : φ₀.le (φ₀.cut (H 0).next) := fun b p h => Phi.cut_of h (X.r0.dom b p h).1
  have h0e := X.next_mono (i := 0) (j := e) (by omega) hN.2.1
  have hseg := X.seg (p := 0) (q := e) (by omega) hN.2.1 fun j h1 h2 => hN.2.2.2 j h1 h2
  have cE : φ₀.le (φ₀.cut (H e).next) := fun b p h => Phi.cut_of h (by have := (X.r0.dom b p h).1; omega)
  have hs : InvS E ops F (fun _ => False) e := ⟨fun _ h => h.elim, fun _ _ h => h.elim, hN.2.1, hN.2.2.1, fun j hj => ⟨fun h => h.elim, fun h => hN.2.2.2 j (by omega) h hj⟩⟩
  have hf : InvF nt ops F H (fun _ => False) φ₀ a₀ := ⟨X.f0.1, fun _ _ _ _ h => h.elim, fun t v _ hv => (X.f0.2 t v hv).mono c0⟩
  have hlt : ∀ b p, φ₀ b = some p → b < (H 0).next := fun b p h => (X.r0.dom b p h).1
  have hm : InvH E N ops F H φ₀ w₀ (fun _ => False) e φ₀ w₀ := {
    dom := fun b p h => (X.r0.dom b p h).2
    born := fun b p h => .inl (hlt b p h)
    obj1 := fun b p o h _ ho => (X.r0.obj b p o h (by rw [← hseg.2 b (hlt b p h)]; exact ho)).mono cE
    obj2 := fun b p o j h h1 => by have := hlt b p h; omega
    inj := fun b b' p p' o o' h h' _ _ ho ho' hp => X.r0.inj b b' p p' o o' h h' (by rw [← hseg.2 b (hlt b p h)]; exact ho) (by rw [← hseg.2 b' (hlt b' p' h')]; exact ho') hp
    sep := fun b b' p p' h _ h1 => by have := hlt b p h; omega
    unb := fun j hj _ hA => by
      have hW : ¬ WE E ops F j := hN.2.2.2 j (by omega) hj
      have hen := hN.2.1
      obtain ⟨o', ho', hw', hc'⟩ := hA
      have hnext : (H (j + 1)).next = (H j).next + 1 := by
        cases X.st j o' ho' with
        | skip hw _ _ _ => rw [hw] at hw'; cases hw'
        | pure _ _ hc _ _ _ _ => rw [hc] at hc'; cases hc'
        | look _ _ hc _ _ _ _ _ => rw [hc] at hc'; cases hc'
        | alloc v _ hc hx _ _ => obtain ⟨ob, h1, _⟩ := alloc_spec hc hx; rw [h1]; rfl
        | eff _ _ _ _ hc _ _ _ _ => rw [hc] at hc'; cases hc'
      exact (X.seg (p := j + 1) (q := e) (by omega) hen fun k k1 k2 => hN.2.2.2 k (by omega) k2).2 _ (by omega)
    le := fun b p h => h
    new := fun b p h => .inl h
    wframe := fun k _ _ => rfl
    size0 := Nat.le_refl _
    alike := ⟨rfl, rfl, rfl⟩ }
  have hd : AdR (φ₀.cut (H e).next) (D e) a₀.defers := by rw [hseg.1]; exact X.d0.mono cE
  obtain ⟨S', e', φ', a', w', q1, q2, q3, q4, q5, q6⟩ := draw_run X hb k cs ops.size t (Array.replicate ops.size false) (fun _ => False) e φ₀ a₀ w₀ hs hf hm hd (by simp)
    (fun j hj => by simp [hj]) (by simp)
  have he : e' = ops.size := by
    have h1 := q2.en
    rcases Nat.lt_or_ge e' ops.size with h | h
    · have := (q2.eS e' (q2.eW h)).1 (q1 e' h); omega
    · omega
  subst he
  have hmn : ∀ j, j ≤ ops.size → (H j).next ≤ (H ops.size).next := fun j hj => X.next_mono hj (Nat.le_refl _)
  have hdom : ∀ b p, φ' b = some p → b < (H ops.size).next := fun b p h => by
    rcases q4.born b p h with h | ⟨j, hj, _, h4⟩
    · exact Nat.lt_of_lt_of_le h (hmn 0 (by omega))
    · exact Nat.lt_of_lt_of_le h4 (hmn (j + 1) (q2.sn j hj))
  refine ⟨φ', w', a', ?_, ⟨q3.size, fun t v hv => ?_⟩, q5.mono (Phi.cut_le _ _), q6⟩
  · exact {
      le := q4.le
      rel := {
        dom := fun b p h => ⟨hdom b p h, q4.dom b p h⟩
        obj := fun b p o h ho => (q4.obj1 b p o h (hdom b p h) ho).mono (Phi.cut_le _ _)
        inj := fun b b' p p' o o' h h' ho ho' hp => q4.inj b b' p p' o o' h h' (hdom b p h) (hdom b' p' h') ho ho' hp
        fresh := fun b h => X.fresh (Nat.le_refl _) h }
      new := q4.new
      dom := hlt
      live := fun b hb h => X.live0 (Nat.le_refl _) hb h
      next := hmn 0 (by omega)
      hframe := fun b hb h => X.hframe0 (Nat.le_refl _) hb h
      size := q4.size0
      wframe := q4.wframe
      os := q4.alike.1
      tape := q4.alike.2.1
      output := q4.alike.2.2 }
  · by_cases hw : ∃ (j : Nat) (o' : Oper), ops[j]? = some o' ∧ o'.dst = some t
    · obtain ⟨j, o', ho', hd'⟩ := hw
      have hj : j < ops.size := (Array.getElem?_eq_some_iff.1 ho').1
      rw [X.Fkeep (i := j + 1) (j := ops.size) (t := t) (by omega) (Nat.le_refl _) fun k ok h1 h2 hok hk => X.RO.dsts j k o' ok t (by omega) ho' hok hd' hk] at hv
      exact (q3.slot j o' t v (q1 j hj) ho' hd' hv).mono (Phi.cut_le _ _)
    · rw [X.Fkeep (i := 0) (j := ops.size) (t := t) (by omega) (Nat.le_refl _) fun k ok h1 h2 hok hk => hw ⟨k, ok, hok, hk⟩] at hv
      exact (q3.init t v (fun j o' _ ho' hd' => hw ⟨j, o', ho', hd'⟩) hv).mono (Phi.cut_le _ _)
end
end Go.Abs
