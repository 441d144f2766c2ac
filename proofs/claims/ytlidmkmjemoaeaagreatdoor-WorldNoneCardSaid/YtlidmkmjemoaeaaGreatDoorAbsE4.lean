/- The abstract machine: arithmetic, comparisons, fields, indexes, slices, both machines; no conditions. -/
import Derived.Test.YtlidmkmjemoaeaaGreatDoorAbsE3
set_option linter.unusedVariables false
set_option linter.unusedSimpArgs false
set_option linter.unusedSectionVars false
namespace Go.Abs
variable [Opq]
open Go
section
variable {P : Program} {E : Env} {N : FuncId → Nat} {φ : Phi} {h : AHeap} {w : World}

theorem pick_ok {c : AV} {a b : Option AV} {c' a' b' : Value} {x : OpR} (hc : VR φ c c') (ha : ∀ v, a = some v → VR φ v a') (hb : ∀ v, b = some v → VR φ v b') (hx : pickA c a b = some x) :
    OpOk P N φ h w (do pure (.value (if ← asBool c' then a' else b'))) x := by
  unfold pickA at hx
  split at hx
  · cases hc
    split at hx
    · cases hx; exact ⟨a', by simp [asBool], ha _ rfl⟩
    · cases hx
  · cases hc
    split at hx
    · cases hx; exact ⟨b', by simp [asBool], hb _ rfl⟩
    · cases hx
  · cases hx

theorem unOp_ok {op : UnOp} {v : AV} {y : Value} {x : OpR} (hv : VR φ v y) (hx : unA op v = some x) : OpOk P N φ h w (vSem (Op.unary op y)) x := by
  unfold unA at hx
  split at hx
  · cases hv; cases vBool_inv hx; exact OpOk.pure (x := .bool _) rfl (.bool _)
  · cases hv; cases vInt_inv hx; exact OpOk.pure (x := .int _ _) rfl (.int _ _)
  · rename_i k n
    cases hv
    unfold bitsI at hx
    cases vInt_inv hx
    refine OpOk.pure (x := .int k _) ?_ (.int _ _)
    simp only [Op.unary, Op.intBits, Sem.run_pure]
    congr 2
  · cases hx

theorem fieldOf_spec {s : TypeId} {i off : Nat} {y : TInf} (hf : fieldOf E s i = some (off, y)) :
    ∃ x fs f, E.ti.get s = some x ∧ x.desc = .struct fs ∧ fs[i]? = some f ∧ f.offset = off ∧ E.ti.get f.type = some y := by
  unfold fieldOf at hf
  split at hf
  · rename_i x hx
    split at hf
    · rename_i fs hd
      split at hf
      · rename_i f hn
        split at hf
        · rename_i y' hy
          cases hf
          refine ⟨x, fs, f, hx, hd, ?_, rfl, hy⟩
          have key : ∀ (l : List Field) (i : Nat) (f : Field), nthField l i = some f → l[i]? = some f := by
            intro l
            induction l with
            | nil => intro i f h; simp [nthField] at h
            | cons a l ih =>
              intro i f h
              cases i with
              | zero => simp only [nthField] at h; cases h; simp
              | succ i => simpa using ih i f h
          simpa using key _ _ _ hn
        · cases hf
      · cases hf
    · cases hf
  · cases hf

theorem fieldAddr_ok (EO : EnvOk P E) {s : TypeId} {f : Nat} {v : AV} {y : Value} {x : OpR} (hv : VR φ v y) (hx : fieldAddrA E s v f = some x) : OpOk P N φ h w (vSem (Instr.fieldAt s y f)) x := by
  unfold fieldAddrA at hx
  split at hx
  · rename_i b o
    cases hv with
    | ptr _ _ p hp =>
      split at hx
      · rename_i off z hf
        split at hx
        · cases hx
        · rename_i m hm
          rw [fNat_eq] at hx
          cases hx
          obtain ⟨xi, fs, f', h1, h2, h3, h4, h5⟩ := fieldOf_spec hf
          refine OpOk.pure (x := .pointer (some ⟨p.blk, p.base + (o + off), none⟩)) ?_ (.ptr _ _ _ hp)
          simp [Instr.fieldAt, EO.under h1, h2, h3, Instr.sureAddr, fieldPlace, EO.size h5, hm, h4, Addr.add_lit, Nat.add_assoc]
      · cases hx
  · cases hx

theorem takeN_spec : ∀ (l : List AV) (o n : Nat) (r : List AV), takeN l o n = some r → r.length = n ∧ o + n ≤ l.length ∧ ∀ j, j < n → r[j]? = l[o + j]? := by
  intro l
  induction l with
  | nil =>
    intro o n r h
    cases o <;> cases n <;> simp [takeN] at h
    subst h; exact ⟨rfl, by simp, fun j hj => by omega⟩
  | cons v l ih =>
    intro o n r h
    cases o with
    | zero =>
      cases n with
      | zero => simp [takeN] at h; subst h; exact ⟨rfl, by simp, fun j hj => by omega⟩
      | succ n =>
        simp only [takeN] at h
        split at h
        · rename_i r' hr'
          cases h
          obtain ⟨a, b, c⟩ := ih 0 n r' hr'
          refine ⟨by simp [a], by simp; omega, fun j hj => ?_⟩
          cases j with
          | zero => simp
          | succ j => have := c j (by omega); simpa using this
        · cases h
    | succ o =>
      simp only [takeN] at h
      obtain ⟨a, b, c⟩ := ih o n r h
      refine ⟨a, by simp; omega, fun j hj => ?_⟩
      rw [c j hj, show o + 1 + j = (o + j) + 1 by omega]; simp

theorem part_ok (EO : EnvOk P E) {t : TypeId} {y : TInf} {cs : List AV} {c : Array Value} {off : Nat} {v : AV} (hy : E.ti.get t = some y) (hc : VRs φ cs c.toList) (hp : partA y cs off = some v) :
    ∃ x, (part t c off).run P w = .ok x w ∧ VR φ v x := by
  unfold partA at hp
  have hl := hc.length
  simp at hl
  split at hp
  · rename_i hagg
    split at hp
    · rename_i l hl'
      cases hp
      obtain ⟨a, b, g⟩ := takeN_spec _ _ _ _ hl'
      refine ⟨.agg (c.extract off (off + y.size)), by simp [part, EO.isAgg hy, hagg, EO.size hy], .agg _ _ ?_⟩
      refine VRs.of_get (by simp [a]; omega) fun i u hu => ?_
      have hi : i < y.size := by
        rcases Nat.lt_or_ge i l.length with h | h
        · omega
        · rw [List.getElem?_eq_none h] at hu; cases hu
      rw [g i hi] at hu
      obtain ⟨x, hx, hr⟩ := hc.get _ _ hu
      refine ⟨x, ?_, hr⟩
      simp only [Array.getElem?_toList] at hx ⊢
      rw [Array.getElem?_extract, if_pos (by omega)]; exact hx
    · cases hp
  · rename_i hagg
    split at hp
    · rename_i u l hl'
      cases hp
      obtain ⟨a, b, g⟩ := takeN_spec _ _ _ _ hl'
      have := g 0 (by omega)
      simp at this
      obtain ⟨x, hx, hr⟩ := hc.get _ _ this.symm
      refine ⟨x, ?_, hr⟩
      simp at hx
      simp [part, EO.isAgg hy, hagg, hx]
    · cases hp

theorem field_ok (EO : EnvOk P E) {t : TypeId} {f : Nat} {v : AV} {y : Value} {x : OpR} (hv : VR φ v y) (hx : fieldA E t v f = some x) : OpOk P N φ h w (vSem (Instr.field t y f)) x := by
  unfold fieldA at hx
  split at hx
  · rename_i cs
    cases hv with
    | agg _ c hc =>
      split at hx
      · rename_i off z hf
        split at hx
        · rename_i u hu
          cases hx
          obtain ⟨xi, fs, f', h1, h2, h3, h4, h5⟩ := fieldOf_spec hf
          obtain ⟨q, hq, hr⟩ := part_ok (w := w) EO h5 hc hu
          refine OpOk.pure (x := q) ?_ hr
          simp [Instr.field, EO.under h1, h2, h3, asAgg, h4, hq]
        · cases hx
      · cases hx
  · cases hx

theorem idx_spec {i : AV} {y : Value} {n m : Nat} (hv : VR φ i y) (h : idx i n = some m) : ∃ k, y = .int k (m : Int) ∧ m < n := by
  unfold idx at h
  split at h
  · split at h
    · rename_i hb
      cases h
      cases hv
      exact ⟨_, rfl, by simp at hb; omega⟩
    · cases h
  · cases h

theorem sizeA_spec {t : TypeId} {s : Nat} (h : sizeA E t = some s) : ∃ i, E.ti.get t = some i ∧ i.size = s := by
  unfold sizeA at h
  split at h
  · cases h; exact ⟨_, by assumption, rfl⟩
  · cases h

theorem indexAddr_ok (EO : EnvOk P E) {t : TypeId} {v i : AV} {y j : Value} {x : OpR} (hv : VR φ v y) (hi : VR φ i j) (hx : indexAddrA E t v i = some x) : OpOk P N φ h w (vSem (Instr.indexAt t y j)) x := by
  unfold indexAddrA at hx
  split at hx
  · rename_i d hd
    split at hx
    · rename_i n e b o hdesc
      cases hv with
      | ptr _ _ p hp =>
        split at hx
        · rename_i m s hm hs
          rw [fNat_eq] at hx
          cases hx
          obtain ⟨k, rfl, hlt⟩ := idx_spec hi hm
          obtain ⟨z, hz, rfl⟩ := sizeA_spec hs
          refine OpOk.pure (x := .pointer (some ⟨p.blk, p.base + (o + m * z.size), none⟩)) ?_ (.ptr _ _ _ hp)
          simp [Instr.indexAt, asIntOf, EO.under hd, hdesc, Instr.sureAddr, hlt, EO.size hz, Addr.add_lit, Nat.add_assoc]
        · cases hx
    · rename_i e b o len c hdesc
      split at hx
      · rename_i m s hm hs
        rw [fNat_eq] at hx
        cases hx
        obtain ⟨k, rfl, hlt⟩ := idx_spec hi hm
        obtain ⟨z, hz, rfl⟩ := sizeA_spec hs
        cases hv with
        | sliceX _ _ _ c p hp =>
          refine OpOk.pure (x := .pointer (some ⟨p.blk, p.base + (o + m * z.size), none⟩)) ?_ (.ptr _ _ _ hp)
          simp [Instr.indexAt, asIntOf, EO.under hd, hdesc, hlt, EO.size hz, Addr.add_lit, Nat.add_assoc]
        | sliceU _ _ _ c p hp =>
          refine OpOk.pure (x := .pointer (some ⟨p.blk, p.base + (o + m * z.size), none⟩)) ?_ (.ptr _ _ _ hp)
          simp [Instr.indexAt, asIntOf, EO.under hd, hdesc, hlt, EO.size hz, Addr.add_lit, Nat.add_assoc]
      · cases hx
    · cases hx
  · cases hx

theorem nthByte_spec : ∀ (l : List UInt8) (i : Nat) (b : UInt8), nthByte l i = some b → l[i]? = some b
  | [], _, _, h => by simp [nthByte] at h
  | a :: l, 0, b, h => by simp only [nthByte] at h; cases h; simp
  | a :: l, i + 1, b, h => by simpa using nthByte_spec l i b h

theorem index_ok (EO : EnvOk P E) {t : TypeId} {v i : AV} {y j : Value} {x : OpR} (hv : VR φ v y) (hi : VR φ i j) (hx : indexA E t v i = some x) : OpOk P N φ h w (vSem (Instr.index t y j)) x := by
  unfold indexA at hx
  split at hx
  · rename_i d hd
    split at hx
    · rename_i n e cs hdesc
      cases hv with
      | agg _ c hc =>
        split at hx
        · rename_i m z hm hz
          split at hx
          · rename_i u hu
            cases hx
            obtain ⟨k, rfl, hlt⟩ := idx_spec hi hm
            obtain ⟨q, hq, hr⟩ := part_ok (w := w) EO hz hc hu
            refine OpOk.pure (x := q) ?_ hr
            simp [Instr.index, asIntOf, EO.under hd, hdesc, hlt, EO.size hz, hq]
          · cases hx
        · cases hx
    · rename_i s hdesc
      cases hv with
      | str s' _ hs =>
        split at hx
        · rename_i k m
          split at hx
          · rename_i b hb
            cases vInt_inv hx
            cases hi
            have hb' := nthByte_spec _ _ _ hb
            refine OpOk.pure (x := .int .u8 b.toNat) ?_ (.int _ _)
            have hget : s'[m]? = some b := by
              rw [← hs] at hb'
              simp only [Array.getElem?_toList] at hb'
              have hlt : m < s'.size := by
                rcases Nat.lt_or_ge m s'.data.size with h | h
                · exact h
                · rw [Array.getElem?_eq_none h] at hb'; cases hb'
              rw [getElem?_pos s' m hlt]
              rw [Array.getElem?_eq_getElem hlt] at hb'
              exact hb'
            simp [Instr.index, asIntOf, EO.under hd, hdesc, hget]
          · cases hx
        · cases hx
    · cases hx
  · cases hx

theorem extract_ok {i : Nat} {v : AV} {y : Value} {x : OpR} (hv : VR φ v y) (hx : extractA v i = some x) : OpOk P N φ h w (vSem (Instr.extract y i)) x := by
  unfold extractA at hx
  split at hx
  · rename_i l
    cases hv with
    | tuple _ a ha =>
      split at hx
      · rename_i u hu
        cases hx
        obtain ⟨q, hq, hr⟩ := ha.get _ _ hu
        refine OpOk.pure (x := q) ?_ hr
        simp at hq
        simp [Instr.extract, hq]
      · cases hx
  · cases hx

theorem iface_ok (EO : EnvOk P E) {t : TypeId} {v : AV} {y : Value} {x : OpR} (hv : VR φ v y) (hx : ifaceA E t v = some x) : OpOk P N φ h w (vSem (Instr.makeInterface t y)) x := by
  unfold ifaceA at hx
  split at hx
  · rename_i i hi
    split at hx
    · cases hx
    · rename_i hne
      cases hx
      refine OpOk.pure (x := .iface t y) ?_ (.iface _ _ _ hv)
      simp only [Instr.makeInterface, Sem.run_bind, EO.under hi, Result.andThen_ok]
      rfl
  · cases hx

theorem nilCheck_ok {v : AV} {y : Value} {x : OpR} (hv : VR φ v y) (hx : nilCheckA v = some x) {ρ : Operand → Value} {o : Oper} {z : Operand} (ho : o.op = .nilCheck z) (hz : ρ z = y) :
    OpOk P N φ h w (execOp ρ o) x := by
  have he : ∀ y, ρ z = y → execOp ρ o = (match y with
    | .pointer none | .nilIface | .nilFunc => runtimePanic .nilDeref
    | .func (.method name) first captured =>
      match (first[0]? : Option Value) with
      | some .nilIface => runtimePanic .nilDeref
      | some (.iface t w) => do
        if (← nilAhead ((← program).types.size + Made.depth) t w name) != some false then
          unsupported (.noEntry "op/nilCheck.the method's receiver behind this interface value is a nil pointer, or cannot be seen to be none, and the arguments act or may panic (ledger 612)")
        pure (.value (.func (.method name) first captured))
      | _ => pure (.value (.func (.method name) first captured))
    | x => pure (.value x)) := by
    intro y hy; unfold execOp; rw [ho]; simp only [hy]; rfl
  rw [he y hz]
  clear he hz ho
  unfold nilCheckA at hx
  split at hx
  · cases hx
  · cases hx
  · cases hx
  · cases hx
  · cases hx
  · rename_i h1 h2 h3 h4 h5
    cases hx
    cases hv with
    | opq i => exact absurd rfl (h5 i)
    | nilPtr => exact absurd rfl h1
    | nilIface => exact absurd rfl h2
    | nilFunc => exact absurd rfl h3
    | func f g a c a' c' hf ha hc =>
      refine ⟨.func g a' c', ?_, .func _ _ _ _ _ _ hf ha hc⟩
      cases hf with
      | same f hne =>
        cases f with
        | method name => exact absurd rfl (h4 _ _ _)
        | _ => rfl
      | yield l p hp => rfl
    | int => exact ⟨_, rfl, by constructor⟩
    | bool => exact ⟨_, rfl, by constructor⟩
    | str s l e => exact ⟨_, rfl, .str _ _ e⟩
    | ptr b o p e => exact ⟨_, rfl, .ptr _ _ _ e⟩
    | nilSlice => exact ⟨_, rfl, .nilSlice⟩
    | sliceX b o n c p e => exact ⟨_, rfl, .sliceX _ _ _ _ _ e⟩
    | sliceU b o n c p e hn hr => exact ⟨_, rfl, .sliceU _ _ _ _ _ e hn hr⟩
    | slice0 b o c p e ho hr => exact ⟨_, rfl, .slice0 _ _ _ _ e ho hr⟩
    | nilMap => exact ⟨_, rfl, .nilMap⟩
    | map r p e h0 => exact ⟨_, rfl, .map _ _ e h0⟩
    | iface t v x e => exact ⟨_, rfl, .iface _ _ _ e⟩
    | agg l a e => exact ⟨_, rfl, .agg _ _ e⟩
    | tuple l a e => exact ⟨_, rfl, .tuple _ _ e⟩

theorem bnd_spec {v : Option AV} {y : Option Value} {d top m : Nat} (hv : (v = none ∧ y = none) ∨ ∃ u z, v = some u ∧ y = some z ∧ VR φ u z) (h : bnd v d top = some m) :
    (v = none ∧ y = none ∧ m = d) ∨ ∃ k, v.isSome = true ∧ y = some (.int k (m : Int)) ∧ m ≤ top := by
  unfold bnd at h
  split at h
  · cases h
    rcases hv with ⟨_, e⟩ | ⟨u, z, e, _⟩
    · exact .inl ⟨rfl, e, rfl⟩
    · cases e
  · split at h
    · rename_i hb
      cases h
      rcases hv with ⟨e, _⟩ | ⟨u, z, e, e2, hr⟩
      · cases e
      · cases e; cases hr; exact .inr ⟨_, rfl, e2, by simpa using hb⟩
    · cases h
  · cases h

end
end Go.Abs
