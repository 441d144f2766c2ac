/- The abstract machine: append and copy, both machines; no conditions. -/
import Derived.Test.YtlidmkmjemoaeaaGreatDoorAbsE11
set_option linter.unusedVariables false
set_option linter.unusedSimpArgs false
set_option linter.unusedSectionVars false
namespace Go.Abs
variable [Opq]
open Go
section
variable {P : Program} {E : Env} {N : FuncId → Nat} {φ : Phi} {h : AHeap} {w : World}

theorem allFlat_append : ∀ {a b : List AV}, allFlat a = true → allFlat b = true → allFlat (a ++ b) = true
  | [], b, _, hb => hb
  | v :: a, b, ha, hb => by
    simp only [allFlat, List.cons_append] at ha ⊢
    split at ha
    · exact allFlat_append ha hb
    · cases ha

theorem allFlat_get : ∀ {l : List AV}, allFlat l = true → ∀ (i : Nat) (v : AV), l[i]? = some v → v.flat = true
  | [], _, i, v, h => by simp at h
  | a :: l, hh, i, v, h => by
    simp only [allFlat] at hh
    split at hh
    · rename_i ha
      cases i with
      | zero => simp at h; subst h; exact ha
      | succ i => exact allFlat_get hh i v (by simpa using h)
    · cases hh

theorem load_flat (r : R N φ h w) {b o n : Nat} {l : List AV} {p : Loc} (hb : φ b = some p) (hl : h.load b o n = some l) : allFlat l = true := by
  unfold AHeap.load at hl
  split at hl
  · rename_i t n' e st ez ho
    obtain ⟨_, hg⟩ := getCells_spec n t o l hl
    obtain ⟨_, c, fz, hc, _, _, _, _, hcell⟩ := r.obj b p _ hb ho
    have key : ∀ (l : List AV), (∀ (j : Nat) (v : AV), l[j]? = some v → ∃ i, t.get i = some v) → allFlat l = true := by
      intro l
      induction l with
      | nil => intro _; rfl
      | cons v l ih =>
        intro hg
        obtain ⟨i, hi⟩ := hg 0 v (by simp)
        simp only [allFlat, (hcell i v hi).2.1]
        exact ih fun j u e => hg (j + 1) u (by simpa using e)
    exact key l fun j v e => ⟨_, hg j v e⟩
  · cases hl

theorem firstA_flat (r : R N φ h w) {z n : Nat} {v : AV} {y : Value} {l : List AV} (hv : VR φ v y) (hf : firstA h z n v = some l) : allFlat l = true := by
  unfold firstA at hf
  split at hf
  · cases hf; rfl
  · split at hf
    · cases hf; rfl
    · cases hf
  · cases hv with
    | sliceX _ _ _ _ p hp => exact load_flat r hp hf
    | sliceU _ _ _ _ p hp _ _ => exact load_flat r hp hf
  · split at hf <;> cases hf
    exact (cellsOfBytes_VRs (φ := φ) _).2.1
  · cases hf

theorem firstA_length {z n : Nat} {v : AV} {l : List AV} (hl : lenA v = some n) (hf : firstA h z n v = some l) (hz : 1 ≤ z) : l.length = n * z := by
  unfold firstA at hf
  split at hf
  · simp only [lenA] at hl; cases hl; cases hf; simp
  · simp only [lenA] at hl; cases hl; split at hf <;> cases hf; simp
  · unfold AHeap.load at hf
    split at hf
    · exact (getCells_spec _ _ _ _ hf).1
    · cases hf
  · rename_i s
    simp only [lenA] at hl
    cases hl
    split at hf <;> cases hf
    rename_i hz1
    have hz1 : z = 1 := by simpa using hz1
    subst hz1
    have := (cellsOfBytes_VRs (φ := fun _ => none) (s.take s.length)).2.2
    rw [this]; simp
  · cases hf

/-- The new elements stand behind the old ones, in the same block. -/
theorem append_here (r : R N φ h w) {b e len n C z : Nat} {p : Loc} {t : PT AV} {n₀ : Nat} {st : Bool} {o' : Nat} {old new : List AV} {mo mn : List Value}
    (hb : φ b = some p) (hg : h.get b = some (.cells t n₀ e st z)) (ho : p.base ≤ o') (hr : o' + C * z ≤ p.base + p.room) (hold : VRs φ old mo) (hol : mo.length = len * z)
    (hcell : ∀ j x, mo[j]? = some x → w.cell? ⟨p.blk, o' + j, none⟩ = some x) (hnew : VRs φ new mn) (hnl : mn.length = n * z) (hfo : allFlat old = true) (hfn : allFlat new = true) (hle : len + n ≤ C) :
    ∃ w', (storeCells ⟨p.blk, o' + len * z, none⟩ mn).run P w = .ok () w' ∧
      Sim N φ h w (φ.put h.next ⟨p.blk, o', p.base + p.room - o', z⟩) ((h.row e (old ++ new) st z).kill b) w' := by
  obtain ⟨hez, c, fz, hc, hroom, hn, hfz, hst, _⟩ := r.obj b p _ hb hg
  have hmul : (len + n) * z ≤ C * z := Nat.mul_le_mul_right _ hle
  rw [Nat.add_mul] at hmul
  have hsz : o' + len * z + mn.length ≤ c.size := by omega
  have hcell? : ∀ j, j < mn.length → (w.cell? ⟨p.blk, o' + len * z + 0 + j, none⟩).isSome = true := fun j hj => by
    simp only [World.cell?, hc]
    simp; omega
  have hfr : ∀ j, j < mn.length → w.frozen? ⟨p.blk, o' + len * z + 0 + j, none⟩ = false := fun j hj => by
    have h2 := hfz (o' + len * z + 0 + j) (by omega) (by omega)
    obtain ⟨lo, hi⟩ := fz
    simp only [World.frozen?, hc]
    simp at h2 ⊢
    omega
  obtain ⟨c', hc', hs', hg'⟩ := heap_setCells p.blk e fz mn (o' + len * z) w c hc hsz
  refine ⟨w.setCells p.blk (o' + len * z) mn, ?_, ?_⟩
  · have := run_storeCells_cells (P := P) p.blk (o' + len * z) mn 0 w hcell? hfr (hnew.oneCells hfn)
    simpa using this
  · have hol2 := hold.length
    have hnl2 := hnew.length
    refine Sim.move (o₁ := .cells (PT.ofList .lf 0 (old ++ new)) (old ++ new).length e st z) r hb hg rfl (fun d => ?_) (.inl ⟨rfl, size_setCells _ _ _ _⟩) (fun k _ hk => heap_setCells_other _ _ _ _ k hk) (alike_setCells _ _ _ _) ?_
    · rw [AHeap.get_kill]
      have hnb : b ≠ h.next := fun e => by have := (r.dom b p hb).1; omega
      by_cases hd : d = b
      · rw [if_pos hd, if_neg (by rw [hd]; exact hnb), if_pos hd]
      · rw [if_neg hd]
        rw [show (h.row e (old ++ new) st z).get d = _ from AHeap.get_new _ _ _]
        by_cases hd2 : d = h.next
        · rw [if_pos hd2, if_pos hd2]
        · rw [if_neg hd2, if_neg hd2, if_neg hd]
    · refine ⟨rfl, c', fz, hc', by simp only; omega, by simp only [List.length_append]; omega, fun i h1 h2 => hfz i (by simp only at h1; omega) (by simp only at h2; omega), hst, fun i v hv => ?_⟩
      rw [PT.get_ofList] at hv
      split at hv
      · rename_i hi
        simp only [Nat.sub_zero] at hv
        refine ⟨by omega, allFlat_get (allFlat_append hfo hfn) i v hv, ?_⟩
        simp only
        rw [hg']
        by_cases hlt : i < old.length
        · rw [List.getElem?_append_left hlt] at hv
          obtain ⟨x, hx, hrx⟩ := hold.get _ _ hv
          refine ⟨x, ?_, hrx.mono (Phi.le_put r _)⟩
          rw [if_neg (by omega)]
          have := hcell i x hx
          simp only [World.cell?, hc] at this
          simpa using this
        · rw [List.getElem?_append_right (by omega)] at hv
          obtain ⟨x, hx, hrx⟩ := hnew.get _ _ hv
          refine ⟨x, ?_, hrx.mono (Phi.le_put r _)⟩
          have hlen : i - old.length < mn.length := by
            rcases Nat.lt_or_ge (i - old.length) mn.length with h | h
            · exact h
            · rw [List.getElem?_eq_none h] at hx; cases hx
          rw [if_pos (by omega), show o' + i - (o' + len * z) = i - old.length by omega]
          exact hx
      · simp [PT.get_lf] at hv

/-- The elements stand in a new block. -/
theorem append_there (r : R N φ h w) (e z cap : Nat) (st : Bool) (l : List AV) (m rest : List Value) (d : Nat) (hl : VRs φ l m) (hf : allFlat l = true) (hsz : m.length + rest.length = cap * z) :
    Sim N φ h w (φ.put h.next ⟨w.heap.size, 0, cap * z, z⟩) (h.row e l st z) { w with drawn := d, heap := w.heap.push (.cells (m ++ rest).toArray e) } := by
  have hll := hl.length
  have := Sim.rowRoom (N := N) r e z st l (m ++ rest).toArray (0, 0) { w with drawn := d, heap := w.heap.push (.cells (m ++ rest).toArray e) }
    (by simp only; rw [List.take_append_of_le_length (by omega), List.take_of_length_le (by omega)]; exact hl) (by simp; omega) hf (by simp) (fun k hk => World.heap_push_old w _ k hk) (by simp) ⟨rfl, rfl, rfl⟩ (fun i _ h => by simp at h) (fun _ => rfl)
  simpa [hsz] using this

/-- A block that is not looked at any more. -/
theorem Sim.kill {φ' : Phi} {h' : AHeap} {w' : World} (s : Sim N φ h w φ' h' w') {b : Nat} {p : Loc} (hb : φ b = some p) : Sim N φ h w φ' (h'.kill b) w' where
  le := s.le
  rel := {
    dom := s.rel.dom
    obj := fun c q o e ho => by
      rw [AHeap.get_kill] at ho
      split at ho
      · cases ho
      · exact s.rel.obj c q o e ho
    inj := fun c d q q' o o' e e' h1 h2 hq => by
      rw [AHeap.get_kill] at h1 h2
      split at h1
      · cases h1
      · split at h2
        · cases h2
        · exact s.rel.inj c d q q' o o' e e' h1 h2 hq
    fresh := fun c hc => by
      rw [AHeap.get_kill]
      split
      · rfl
      · exact s.rel.fresh c hc }
  new := s.new
  dom := s.dom
  live := fun c hc g => by
    rw [AHeap.get_kill]
    split
    · rfl
    · exact s.live c hc g
  next := s.next
  hframe := fun c hc e => by
    rw [AHeap.get_kill, if_neg]
    · exact s.hframe c hc e
    · intro e2; subst e2; rw [hb] at e; cases e
  size := s.size
  wframe := s.wframe
  os := s.os
  tape := s.tape
  output := s.output

theorem firstA_all (r : R N φ h w) {z n : Nat} {v : AV} {y : Value} {l : List AV} (hv : VR φ v y) (hf : firstA h z n v = some l) :
    ∃ m : Array Value, (∀ d, (Builtin.firstCells z n y).run P { w with drawn := d } = .ok m { w with drawn := d }) ∧ VRs φ l m.toList := by
  unfold firstA at hf
  split at hf
  · cases hf; cases hv; exact ⟨#[], fun _ => rfl, .nil⟩
  · cases hv with
    | slice0 _ o c p hp ho hr =>
      split at hf
      · cases hf
        exact ⟨#[], fun d => by simpa [Builtin.firstCells] using run_loadCells_at P { w with drawn := d } p.blk o 0 [] rfl (fun j x h => by simp at h), .nil⟩
      · cases hf
  · rename_i b o len cc
    cases hv with
    | sliceX _ _ _ c p hp =>
      obtain ⟨m, hm, hn, hc⟩ := load_cells r hp hf
      exact ⟨m.toArray, fun d => run_loadCells_at P { w with drawn := d } p.blk _ _ m hn hc, by simpa using hm⟩
    | sliceU _ _ _ c p hp _ _ =>
      obtain ⟨m, hm, hn, hc⟩ := load_cells r hp hf
      exact ⟨m.toArray, fun d => run_loadCells_at P { w with drawn := d } p.blk _ _ m hn hc, by simpa using hm⟩
  · obtain ⟨m, hm, hr⟩ := firstA_ok (P := P) r hv (h := h) (z := z) (n := n) (l := l) (by simpa [firstA] using hf)
    cases hv
    exact ⟨m, fun d => by simp only [Builtin.firstCells, Sem.run_pure] at hm ⊢; cases hm; rfl, hr⟩
  · cases hf

theorem addN (b o n : Nat) : (⟨b, o, none⟩ : Addr).add n = ⟨b, o + n, none⟩ := by
  unfold Addr.add
  split
  · rename_i h; subst h; rfl
  · rfl

/-- The type of the appended operand is not an integer. -/
def NotInt (P : Program) (ts : Array TypeId) : Prop := ts[1]? = none ∨ ∃ xT d, ts[1]? = some xT ∧ (∀ w, (underlying xT).run P w = .ok d w) ∧ ∀ k, d ≠ .int k

/-- The machine's append, in place. -/
theorem run_append_here {ts : Array TypeId} {rt t e : TypeId} {q : Value} {base : Option Addr} {len C n sz : Nat} {new : Array Value} {w' : World} (hts : ts[0]? = some t)
    (hz1 : NotInt P ts)
    (hun : (underlying t).run P w = .ok (.slice e) w) (hsz : (sizeOf e).run P w = .ok sz w) (hlen : (Builtin.lenOf q).run P w = .ok n w) (hnew : (Builtin.firstCells sz n q).run P w = .ok new w) (hle : len + n ≤ C)
    (hst : (match base with | some a => storeCells (a.add (len * sz)) new.toList | none => pure ()).run P w = .ok () w') :
    (Builtin.append_ ts rt #[.slice base len C, q]).run P w = .ok (.slice base (len + n) C) w' := by
  unfold Builtin.append_
  simp only [hts, Sem.run_bind, hun, Result.andThen_ok, hsz, List.getElem?_toArray, List.getElem?_cons_zero, List.getElem?_cons_succ]
  rcases hz1 with h1 | ⟨xT, dx, h1, h2, h3⟩
  · simp only [h1, Sem.run_bind, Sem.run_pure, Result.andThen_ok, Bool.false_eq_true, if_false, hlen, Bool.not_false, if_true, hle, hnew]
    cases base with
    | none =>
      simp only [Sem.run_pure, Result.ok.injEq, true_and] at hst
      subst hst
      rfl
    | some a =>
      simp only at hst
      simp only [Sem.run_bind, hst, Result.andThen_ok]
      rfl
  · have hb : (match dx with | .int _ => true | _ => false) = false := by
      cases dx <;> first | rfl | exact absurd rfl (h3 _)
    simp only [h1, Sem.run_bind, h2, Sem.run_pure, Result.andThen_ok, hb, Bool.false_eq_true, if_false, hlen, Bool.not_false, if_true, hle, hnew]
    cases base with
    | none =>
      simp only [Sem.run_pure, Result.ok.injEq, true_and] at hst
      subst hst
      rfl
    | some a =>
      simp only at hst
      simp only [Sem.run_bind, hst, Result.andThen_ok]
      rfl

/-- The machine's append, in a new block. -/
theorem run_append_there {ts : Array TypeId} {rt t e : TypeId} {q : Value} {base : Option Addr} {len C n sz : Nat} {old new : Array Value} {zv : Value} {ti : TypeInfo} (hts : ts[0]? = some t)
    (hz1 : NotInt P ts)
    (hun : ∀ w, (underlying t).run P w = .ok (.slice e) w) (hsz : ∀ w, (sizeOf e).run P w = .ok sz w) (hlen : (Builtin.lenOf q).run P w = .ok n w) (hnew : ∀ d, (Builtin.firstCells sz n q).run P { w with drawn := d } = .ok new { w with drawn := d })
    (hold : ∀ d, (Builtin.firstCells sz len (.slice base len C)).run P { w with drawn := d } = .ok old { w with drawn := d }) (hzv : ∀ w, (zeroValue e).run P w = .ok zv w) (hti : ∀ w, (typeInfo e).run P w = .ok ti w) (hby : ti.bytes ≤ 10000)
    (hgt : C < len + n) (hle : len + n ≤ 2000000) :
    ∃ cap d, len + n ≤ cap ∧ (Builtin.append_ ts rt #[.slice base len C, q]).run P w = .ok (.slice (some ⟨w.heap.size, 0, none⟩) (len + n) cap) { w with drawn := d, heap := w.heap.push (.cells (old ++ new ++ Builtin.zeroCells zv.cells (cap - (len + n))) e) } := by
  obtain ⟨cap, hcap⟩ : ∃ cap, (Question.appendCap (len + n) C e).cut (w.tape w.drawn (.appendCap (len + n) C e)) = cap := ⟨_, rfl⟩
  refine ⟨cap, w.drawn + 1, by rw [← hcap]; simp only [Question.cut]; omega, ?_⟩
  have hns : ¬ (Builtin.nextslicecap (len + n) C * ti.bytes > 281474976710656) := by
    have h1 := nextslicecap_le hgt
    have : Builtin.nextslicecap (len + n) C * ti.bytes ≤ 4000768 * 10000 := Nat.mul_le_mul (by omega) hby
    omega
  have hq : (Question.appendCap (len + n) C e).forced = false := rfl
  have hmax : ¬ (((len + n : Nat) : Int) > IntKind.i64.max) := by simp [IntKind.max, IntKind.signed, IntKind.bits]; omega
  unfold Builtin.append_
  simp only [hts, Sem.run_bind, hun, Result.andThen_ok, hsz, List.getElem?_toArray, List.getElem?_cons_zero, List.getElem?_cons_succ]
  rcases hz1 with h1 | ⟨xT, dx, h1, h2, h3⟩
  · simp only [h1, Sem.run_bind, Sem.run_pure, Result.andThen_ok, Bool.false_eq_true, if_false, hlen, Bool.not_false, if_true, Nat.not_le.2 hgt, hmax, false_and, hti, Nat.reducePow, hns, Sem.run_ite, run_choose, hq, hcap, run_askRoom, hold, hnew, hzv, newRow, run_newObj]
  · have hb : (match dx with | .int _ => true | _ => false) = false := by
      cases dx <;> first | rfl | exact absurd rfl (h3 _)
    simp only [h1, h2, hb, Sem.run_bind, Sem.run_pure, Result.andThen_ok, Bool.false_eq_true, if_false, hlen, Bool.not_false, if_true, Nat.not_le.2 hgt, hmax, false_and, hti, Nat.reducePow, hns, Sem.run_ite, run_choose, hq, hcap, run_askRoom, hold, hnew, hzv, newRow, run_newObj]

structure App (P : Program) (w : World) (ts : Array TypeId) (t e : TypeId) (z n : Nat) (q : Value) (mn : Array Value) (zv : Value) (ti : TypeInfo) : Prop where
  hts : ts[0]? = some t
  hz1 : NotInt P ts
  hun : ∀ w, (underlying t).run P w = .ok (.slice e) w
  hsz : ∀ w, (sizeOf e).run P w = .ok z w
  hlen : (Builtin.lenOf q).run P w = .ok n w
  hnew : ∀ d, (Builtin.firstCells z n q).run P { w with drawn := d } = .ok mn { w with drawn := d }
  hzv : ∀ w, (zeroValue e).run P w = .ok zv w
  hti : ∀ w, (typeInfo e).run P w = .ok ti w
  hby : ti.bytes ≤ 10000
  hn : n ≤ 1000000
  hzl : zv.cells.size = z
  hz : 1 ≤ z
  hml : mn.size = n * z

theorem App.there {ts : Array TypeId} {t e : TypeId} {z n : Nat} {q : Value} {mn : Array Value} {zv : Value} {ti : TypeInfo} (A : App P w ts t e z n q mn zv ti) (r : R N φ h w) {rt : TypeId} {old new : List AV} {mo : List Value} {base : Option Addr} {len C : Nat}
    (hold : ∀ d, (Builtin.firstCells z len (.slice base len C)).run P { w with drawn := d } = .ok mo.toArray { w with drawn := d }) (ho : VRs φ old mo) (hol : mo.length = len * z) (hnr : VRs φ new mn.toList)
    (hfo : allFlat old = true) (hfn : allFlat new = true) (hgt : C < len + n) (hl : len ≤ 1000000) (st : Bool) :
    ∃ y φ' w', (Builtin.append_ ts rt #[.slice base len C, q]).run P w = .ok y w' ∧ VR φ' (.slice h.next 0 (len + n) none) y ∧ Sim N φ h w φ' (h.row e (old ++ new) st z) w' := by
  have hn := A.hn
  obtain ⟨cap, d, hcap, hrun⟩ := run_append_there (rt := rt) (old := mo.toArray) (new := mn) A.hts A.hz1 A.hun A.hsz A.hlen A.hnew hold A.hzv A.hti A.hby hgt (by omega)
  have hml := A.hml
  have hzl := A.hzl
  have hmul : cap * z = len * z + n * z + (cap - (len + n)) * z := by
    rw [← Nat.add_mul, ← Nat.add_mul]; congr 1; omega
  have hs := append_there (N := N) r e z cap st (old ++ new) (mo ++ mn.toList) (Builtin.zeroCells zv.cells (cap - (len + n))).toList d (ho.append hnr) (allFlat_append hfo hfn) (by
    simp only [List.length_append, Array.length_toList, zeroCells_size, hzl]
    omega)
  refine ⟨_, φ.put h.next ⟨w.heap.size, 0, cap * z, z⟩, _, hrun, .sliceU _ _ _ _ ⟨w.heap.size, 0, cap * z, z⟩ (Phi.put_same _ _ _) hcap (by show 0 + cap * z ≤ cap * z; omega), ?_⟩
  have he : (mo.toArray ++ mn ++ Builtin.zeroCells zv.cells (cap - (len + n))) = ((mo ++ mn.toList) ++ (Builtin.zeroCells zv.cells (cap - (len + n))).toList).toArray := by
    apply Array.toList_inj.1; simp
  rw [he]; exact hs

theorem App.grow {ts : Array TypeId} {t e : TypeId} {z n : Nat} {q : Value} {mn : Array Value} {zv : Value} {ti : TypeInfo} (A : App P w ts t e z n q mn zv ti) (r : R N φ h w) {rt : TypeId} {b o' len C : Nat} {p : Loc} {old new : List AV} {mo : List Value} {x : OpR}
    (hb : φ b = some p) (ho : p.base ≤ o') (hr : o' + C * p.esz ≤ p.base + p.room) (hold : VRs φ old mo) (hol : mo.length = len * z)
    (hcell : ∀ j x, mo[j]? = some x → w.cell? ⟨p.blk, o' + j, none⟩ = some x) (hnr : VRs φ new mn.toList)
    (hfo : allFlat old = true) (hfn : allFlat new = true) (hl : len ≤ 1000000)
    (hx : growA h b e z (len + n) (old ++ new) = some x) : OpOk P N φ h w (vSem (Builtin.append_ ts rt #[.slice (some ⟨p.blk, o', none⟩) len C, q])) x := by
  unfold growA at hx
  split at hx
  · rename_i t' n' e' st ez hg
    split at hx
    · rename_i he hez
      have he : e = e' := by simpa using he
      have hez : ez = z := by simpa using hez
      subst he; subst hez
      cases hx
      have hesz : p.esz = ez := (r.obj b p _ hb hg).1.symm ▸ rfl
      rw [hesz] at hr
      by_cases hle : len + n ≤ C
      · obtain ⟨w', hst, hsim⟩ := append_here (P := P) (n := n) (C := C) r hb hg ho hr hold hol hcell hnr (by simpa using A.hml) hfo hfn hle
        have hnew := A.hnew w.drawn
        refine OpOk.made (run_append_here A.hts A.hz1 (A.hun w) (A.hsz w) A.hlen hnew hle ?_) (.sliceU _ _ _ _ _ (Phi.put_same _ _ _) hle ?_) hsim
        · simp only [addN]; exact hst
        · simp only; omega
      · obtain ⟨y, φ', w', h1, h2, h3⟩ := A.there (N := N) (C := C) (base := some ⟨p.blk, o', none⟩) (rt := rt) r (fun d => run_loadCells_at P { w with drawn := d } p.blk o' _ mo hol hcell) hold hol hnr hfo hfn (by omega) hl st
        exact OpOk.made h1 h2 (h3.kill hb)
    · cases hx
  · cases hx

theorem append_ok (EO : EnvOk P E) (r : R N φ h w) {t : TypeId} {ts : Array TypeId} {rt : TypeId} {v u : AV} {y q : Value} {x : OpR} (hts : ts[0]? = some t)
    (hz1 : NotInt P ts)
    (hv : VR φ v y) (hu : VR φ u q) (hx : appendA E h t v u = some x) : OpOk P N φ h w (vSem (Builtin.append_ ts rt #[y, q])) x := by
  unfold appendA at hx
  split at hx
  · rename_i e ty he
    obtain ⟨i, hi, hd, hy⟩ := elemA_spec he
    split at hx
    · rename_i n hn
      split at hx
      · rename_i new z hnew hz
        split at hx
        · rename_i hc
          simp only [Bool.and_eq_true] at hc
          obtain ⟨⟨⟨⟨c1, c2⟩, c3⟩, c4⟩, c5⟩ := hc
          have c1 : 1 ≤ ty.size := by simpa using c1
          have c2 : ty.bytes ≤ 10000 := by simpa using c2
          have c3 : z.length = ty.size := by simpa using c3
          have c5 : n ≤ 1000000 := by simpa using c5
          have hun : ∀ w, (underlying t).run P w = .ok (.slice e) w := fun w => by rw [← hd]; exact EO.under hi w
          obtain ⟨xi, hinfo, _, _, hbx, _⟩ := EO.info e ty hy
          have hti : ∀ w, (typeInfo e).run P w = .ok xi w := fun w => run_typeInfo w hinfo
          obtain ⟨zv, hzv0, hzo⟩ := EO.zero hy w hz
          have hzv : ∀ w, (zeroValue e).run P w = .ok zv w := fun w2 => by
            obtain ⟨zv2, h2, _⟩ := EO.zero hy w2 hz
            have : zv2 = zv := by
              simp only [zeroValue, Sem.run_bind, hti, Result.andThen_ok] at h2 hzv0
              cases hxz : xi.zero with
              | none => rw [hxz] at h2; simp at h2
              | some a => rw [hxz] at h2 hzv0; simp at h2 hzv0; rw [← h2, ← hzv0]
            rw [← this]; exact h2
          obtain ⟨hzc, _, _⟩ := zeroOf_VR (φ := φ) hzo
          have hzl : zv.cells.size = ty.size := by have := hzc.length; simp at this; omega
          obtain ⟨mn, hmn, hmr⟩ := firstA_all (P := P) r hu hnew
          have hfn := firstA_flat r hu hnew
          have hml : mn.size = n * ty.size := by
            have h1 := hmr.length
            have h2 : new.length = n * ty.size := firstA_length hn hnew c1
            simp at h1; omega
          have A : App P w ts t e ty.size n q mn zv xi := ⟨hts, hz1, hun, fun w => EO.size hy w, lenA_ok hu hn, hmn, hzv, hti, by rw [hbx]; exact c2, c5, hzl, c1, hml⟩
          unfold appendV at hx
          split at hx
          · cases hv
            split at hx
            · cases hx
              refine OpOk.pure (run_append_here A.hts A.hz1 (A.hun w) (A.hsz w) A.hlen (A.hnew w.drawn) (Nat.le_refl _) rfl) .nilSlice
            · rename_i n
              cases hx
              obtain ⟨y, φ', w', h1, h2, h3⟩ := A.there (N := N) (C := 0) (base := none) (rt := rt) (len := 0) (mo := []) (old := []) r (fun d => rfl) .nil (by simp) hmr rfl hfn (by omega) (by omega) false
              rw [Nat.zero_add] at h2
              exact OpOk.made h1 h2 h3
          · rename_i b o len cap
            split at hx
            · rename_i old hl hold
              have hl : len ≤ 1000000 := by simpa using hl
              split at hx
              · rename_i c
                cases hv with
                | sliceX _ _ _ _ p hp =>
                  obtain ⟨mo, hmo, hmol, hmoc⟩ := load_cells r hp hold
                  have hfo := load_flat r hp hold
                  unfold appendX at hx
                  split at hx
                  · rename_i hle
                    have hle : len + n ≤ c := by simpa using hle
                    split at hx
                    · rename_i h' hst
                      cases hx
                      obtain ⟨w', hw, hsim⟩ := store_sim (P := P) r hp hst hmr
                      refine OpOk.made (run_append_here A.hts A.hz1 (A.hun w) (A.hsz w) A.hlen (A.hnew w.drawn) hle (w' := w') ?_) (.sliceX _ _ _ _ _ (hsim.le _ _ hp)) hsim
                      simp only [addN, Nat.add_assoc]
                      exact hw
                    · cases hx
                  · rename_i hle
                    have hle : ¬ (len + n ≤ c) := by
                      intro h
                      have : Nat.ble (len + n) c = true := by simpa using h
                      rw [this] at hle; cases hle
                    cases hx
                    obtain ⟨y, φ', w', h1, h2, h3⟩ := A.there (N := N) (C := c) (base := some ⟨p.blk, p.base + o, none⟩) (rt := rt) r (fun d => run_loadCells_at P { w with drawn := d } p.blk _ _ mo hmol hmoc) hmo hmol hmr hfo hfn (by omega) hl false
                    exact OpOk.made h1 h2 h3
              · cases hv with
                | sliceU _ _ _ c p hp hnc hrc =>
                  split at hx
                  · cases hx
                    refine OpOk.pure (run_append_here A.hts A.hz1 (A.hun w) (A.hsz w) A.hlen (A.hnew w.drawn) (by omega) (w' := w) ?_) (.sliceU _ _ _ _ _ hp hnc hrc)
                    have : mn = #[] := by have := A.hml; simpa using this
                    subst this; rfl
                  · obtain ⟨mo, hmo, hmol, hmoc⟩ := load_cells r hp hold
                    have hfo := load_flat r hp hold
                    exact A.grow r hp (by omega) (by omega) hmo hmol hmoc hmr hfo hfn hl hx
            · cases hx
          · rename_i b
            cases hv with
            | slice0 _ o c p hp ho hr =>
              split at hx
              · cases hx
                refine OpOk.pure (run_append_here A.hts A.hz1 (A.hun w) (A.hsz w) A.hlen (A.hnew w.drawn) (by omega) (w' := w) ?_) (.slice0 _ _ _ _ hp ho hr)
                have : mn = #[] := by have := A.hml; simpa using this
                subst this; rfl
              · rename_i n
                refine A.grow (len := 0) (mo := []) (old := []) r hp ho hr .nil (by simp) (fun j x h => by simp at h) hmr rfl hfn (by omega) ?_
                rw [Nat.zero_add]; exact hx
          · cases hx
        · cases hx
      · cases hx
    · cases hx
  · cases hx
end
end Go.Abs
