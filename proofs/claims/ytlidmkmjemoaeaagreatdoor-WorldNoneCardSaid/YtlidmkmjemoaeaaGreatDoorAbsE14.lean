/- The abstract machine: every operation, both machines; no conditions. -/
import Derived.Test.YtlidmkmjemoaeaaGreatDoorAbsX
set_option linter.unusedVariables false
set_option linter.unusedSimpArgs false
set_option linter.unusedSectionVars false
namespace Go.Abs
variable [Opq]
open Go
section
variable {P : Program} {E : Env} {N : FuncId → Nat} {φ : Phi} {h : AHeap} {w : World} {nt : Nat} {fr : Fr} {a : Act}

theorem oVal_inv {x : Option AV} {r : OpR} (h : oVal x = some r) : ∃ v, x = some v ∧ r = .val v := by
  cases x with
  | none => cases h
  | some v => cases h; exact ⟨v, rfl, rfl⟩
theorem oMem_inv {x : Option AHeap} {r : OpR} (h : oMem x = some r) : ∃ v, x = some v ∧ r = .mem (.tuple []) v := by
  cases x with
  | none => cases h
  | some v => cases h; exact ⟨v, rfl, rfl⟩
theorem o1Inv {x : Option AV} {f : AV → Option OpR} {r : OpR} (h : o1 x f = some r) : ∃ v, x = some v ∧ f v = some r := by
  cases x with
  | none => cases h
  | some v => exact ⟨v, rfl, h⟩
theorem o2Inv {x y : Option AV} {f : AV → AV → Option OpR} {r : OpR} (h : o2 x y f = some r) : ∃ v w, x = some v ∧ y = some w ∧ f v w = some r := by
  cases x with
  | none => cases h
  | some v => cases y with
    | none => cases h
    | some w => exact ⟨v, w, rfl, rfl, h⟩
theorem oL_inv {x : Option (List AV)} {f : List AV → Option OpR} {r : OpR} (h : oL x f = some r) : ∃ v, x = some v ∧ f v = some r := by
  cases x with
  | none => cases h
  | some v => exact ⟨v, rfl, h⟩
theorem oP_inv {x : Option (List (Nat × AV))} {f : List (Nat × AV) → Option OpR} {r : OpR} (h : oP x f = some r) : ∃ v, x = some v ∧ f v = some r := by
  cases x with
  | none => cases h
  | some v => exact ⟨v, rfl, h⟩
theorem oO_inv {x : Option (Option AV)} {f : Option AV → Option OpR} {r : OpR} (h : oO x f = some r) : ∃ v, x = some v ∧ f v = some r := by
  cases x with
  | none => cases h
  | some v => exact ⟨v, rfl, h⟩

theorem OR.of (hf : FrR φ nt fr a.tmps) {x : Option Operand} {v : Option AV} (h : optA fr x = some v) : OR φ v (x.map a.eval) := by
  exact optA_VR hf h

theorem run_loadAt (EO : EnvOk P E) (r : R N φ h w) {t : TypeId} {v u : AV} {y : Value} (hv : VR φ v y) (hl : loadA E h t v = some u) : ∃ x, (Instr.loadAt t y).run P w = .ok x w ∧ VR φ u x := by
  unfold loadA at hl
  split at hl
  · rename_i b o
    split at hl
    · rename_i i hi
      cases hv with
      | ptr _ _ p hp =>
        obtain ⟨x, hx, hr⟩ := run_loadVar_at EO hi r hp hl
        refine ⟨x, ?_, hr⟩
        simp [Instr.loadAt, Instr.sureAddr, hx]
    · cases hl
  · cases hl

theorem builtA_ok (EO : EnvOk P E) (r : R N φ h w) {b : Builtin} {ts : Array TypeId} {l : List AV} {as : Array Value} {rt : TypeId} {cs : Array Bool} {x : OpR} (hl : VRs φ l as.toList) (hx : builtA E h b ts l = some x) :
    OpOk P N φ h w (builtin b ts rt cs as) x := by
  have hmm : ∀ mx, oVal (minmax mx l) = some x → ∃ y v, x = .val v ∧ VR φ v y ∧ ((if mx then Builtin.max_ ts rt as else Builtin.min_ ts rt as).run P w = .ok y w) := by
    intro mx h
    obtain ⟨v, hv, rfl⟩ := oVal_inv h
    unfold minmax at hv
    split at hv
    · rename_i k a0 l'
      obtain ⟨y0, m, hm, h0, hlm⟩ : ∃ y0 m, as.toList = y0 :: m ∧ VR φ (.int k a0) y0 ∧ VRs φ l' m := by
        generalize hg : as.toList = z at hl
        cases hl with
        | cons _ y _ m h1 h2 => exact ⟨y, m, rfl, h1, h2⟩
      cases h0
      obtain ⟨b, rfl, hr⟩ := mmGo_ok (P := P) (w := w) mx k a0 hlm hv
      refine ⟨.int k b, _, rfl, .int _ _, ?_⟩
      cases mx with
      | true => simp only [if_true] at hr ⊢; simp only [Builtin.max_, hm]; exact hr
      | false => simp only [Bool.false_eq_true, if_false] at hr ⊢; simp only [Builtin.min_, hm]; exact hr
    · cases hv
  unfold builtA at hx
  split at hx
  · obtain ⟨y, v, rfl, hv, hr⟩ := hmm true hx
    exact OpOk.pure hr hv
  · obtain ⟨y, v, rfl, hv, hr⟩ := hmm false hx
    exact OpOk.pure hr hv
  · rename_i hn1 hn2
    clear hmm hn1 hn2
    have one : ∀ {u : AV}, l = [u] → ∃ y, as = #[y] ∧ VR φ u y := by
      intro u e
      subst e
      generalize hg : as.toList = z at hl
      cases hl with
      | cons _ y _ m h1 h2 =>
        cases h2
        exact ⟨y, Array.toList_inj.1 hg, h1⟩
    have two : ∀ {u v : AV}, l = [u, v] → ∃ y z, as = #[y, z] ∧ VR φ u y ∧ VR φ v z := by
      intro u v e
      subst e
      generalize hg : as.toList = z at hl
      cases hl with
      | cons _ y _ m h1 h2 =>
        cases h2 with
        | cons _ y' _ m' h1' h2' =>
          cases h2'
          exact ⟨y, y', Array.toList_inj.1 hg, h1, h1'⟩
    have ht0 : ∀ {t : TypeId} {m : List TypeId}, ts.toList = t :: m → ts[0]? = some t := fun e => by
      rw [← Array.getElem?_toList, e]; rfl
    unfold builtinA at hx
    split at hx
    · rename_i t u s y hts
      obtain ⟨y, z, rfl, h1, h2⟩ := two rfl
      split at hx
      · rename_i i hi
        have hu1 : ts[1]? = some u := by rw [← Array.getElem?_toList, hts]; rfl
        split at hx
        · cases hx
        · rename_i hni
          exact append_ok EO r (ht0 hts) (.inr ⟨u, i.desc, hu1, fun w => EO.under hi w, fun k e => hni k e⟩) h1 h2 hx
      · cases hx
    · rename_i t s y hts
      obtain ⟨y, z, rfl, h1, h2⟩ := two rfl
      exact append_ok EO r (ht0 hts) (.inl (by rw [← Array.getElem?_toList, hts]; rfl)) h1 h2 hx
    · rename_i t m d y hts
      obtain ⟨y, z, rfl, h1, h2⟩ := two rfl
      exact copy_ok EO r (ht0 hts) h1 h2 hx
    · rename_i t m y hts
      obtain ⟨y, rfl, h1⟩ := one rfl
      split at hx
      · rename_i v hv
        cases hx
        obtain ⟨z, hz, hr⟩ := len_ok (rt := rt) EO r (ht0 hts) h1 hv
        exact OpOk.pure hz hr
      · cases hx
    · rename_i t m y hts
      obtain ⟨y, rfl, h1⟩ := one rfl
      exact cap_ok EO (ht0 hts) h1 hx
    · rename_i t m y hts
      obtain ⟨y, rfl, h1⟩ := one rfl
      exact clear_ok EO r (ht0 hts) h1 hx
    · rename_i t m y k hts
      obtain ⟨y, z, rfl, h1, h2⟩ := two rfl
      split at hx
      · rename_i h' hd
        cases hx
        obtain ⟨w', hw, hs⟩ := delete_ok (rt := rt) EO r (ht0 hts) h1 h2 hd
        exact OpOk.made hw (.tuple _ _ .nil) hs
      · cases hx
    · cases hx

theorem OpOk.congr {s s' : Sem Next} {x : OpR} (he : s.run P w = s'.run P w) (ho : OpOk P N φ h w s' x) : OpOk P N φ h w s x := by
  cases x with
  | val v => obtain ⟨y, h1, h2⟩ := ho; exact ⟨y, he.trans h1, h2⟩
  | mem v h' => obtain ⟨y, nx, φ', w', h1, h2⟩ := ho; exact ⟨y, nx, φ', w', he.trans h1, h2⟩
  | call f l => obtain ⟨L, h1, h2⟩ := ho; exact ⟨L, he.trans h1, h2⟩
  | yield l a => obtain ⟨p, L, h0, h1, h2⟩ := ho; exact ⟨p, L, h0, he.trans h1, h2⟩
  | dfr d => obtain ⟨D, h1, h2⟩ := ho; exact ⟨D, he.trans h1, h2⟩

theorem call_ok (EO : EnvOk P E) (r : R N φ h w) (hf : FrR φ nt fr a.tmps) {c : Call} {o : Oper} {x : OpR} (ho : o.op = .call c) (hx : callOpA E h fr c = some x) :
    OpOk P N φ h w (execOp a.eval o) x := by
  have he : execOp a.eval o = (do let d ← resolve a.eval c o.type; Go.invoke d.target d.args) := by
    unfold execOp; rw [ho]
  rw [he]
  unfold callOpA at hx
  split at hx
  · rename_i b hc
    obtain ⟨l, hl, hx⟩ := oL_inv hx
    have hls := opnds_VRs hf hl
    have : (do let d ← resolve a.eval c o.type; Go.invoke d.target d.args : Sem Next) = builtin b c.argTypes o.type (c.args.map fun | .const _ => true | _ => false) (c.args.map a.eval) := by
      unfold resolve; rw [hc]; rfl
    rw [this]
    exact builtA_ok EO r (by simpa using hls) hx
  · rename_i f hc
    obtain ⟨v, hv, hx⟩ := o1Inv hx
    obtain ⟨l, hl, hx⟩ := oL_inv hx
    have hls := opnds_VRs hf hl
    have hv := opnd_VR hf hv
    unfold callX at hx
    split at hx
    · rename_i g as hca
      obtain ⟨first, captured, rfl, rfl⟩ : ∃ first captured, v = .func (.func g) first captured ∧ as = first ++ l ++ captured := by
        unfold callA at hca
        split at hca
        · cases hca; exact ⟨_, _, rfl, rfl⟩
        · cases hca
        · cases hca
      generalize hz : a.eval f = z at hv
      cases hv with
      | func _ g' _ _ a' c' hfn ha hcp =>
        cases hfn with
        | same _ _ =>
          have hrun : ∀ w, (do let d ← resolve a.eval c o.type; Go.invoke d.target d.args : Sem Next).run P w = (callFunc g ((a' ++ c.args.map a.eval) ++ c')).run P w := fun w => by
            simp only [resolve, hc, hz, Deferred.ofValue, Sem.run_bind, Sem.run_pure, Result.andThen_ok, Go.invoke]
          have hls2 : VRs φ (first ++ l ++ captured) ((a' ++ c.args.map a.eval) ++ c').toList := by
            simp only [Array.toList_append, Array.toList_map]
            exact (ha.append hls).append hcp
          split at hx
          · rename_i k hk
            exact OpOk.congr (hrun w) (ext_ok EO r hk hls2 hx)
          · cases hx
            exact ⟨_, hrun w, hls2⟩
    · rename_i hnc
      unfold callA at hx hnc
      split at hx
      · exact absurd rfl (hnc _ _)
      · rename_i l'
        cases hx
        generalize hz : a.eval f = z at hv
        cases hv with
        | func _ g' _ _ a' c' hfn ha hcp =>
          cases hfn with
          | same _ hy => exact absurd rfl (hy _)
          | yield _ p hp =>
            refine ⟨p, a' ++ c.args.map a.eval, hp, ?_, ?_⟩
            · simp only [resolve, hc, hz, Deferred.ofValue, Sem.run_bind, Sem.run_pure, Result.andThen_ok, Go.invoke]
            · simp only [Array.toList_append, Array.toList_map]
              have := ha.append hls
              simpa using this
      · cases hx
  · cases hx

theorem defer_ok (hf : FrR φ nt fr a.tmps) {c : Call} {o : Oper} {x : OpR} (ho : o.op = .defer c) (hx : deferOpA fr c = some x) :
    OpOk P N φ h w (execOp a.eval o) x := by
  have he : execOp a.eval o = (do pure (.defer (← resolve a.eval c o.type))) := by
    unfold execOp; rw [ho]
  rw [he]
  unfold deferOpA at hx
  split at hx
  · rename_i f hc
    obtain ⟨v, hv, hx⟩ := o1Inv hx
    obtain ⟨l, hl, hx⟩ := oL_inv hx
    have hls := opnds_VRs hf hl
    have hv := opnd_VR hf hv
    unfold dfrOf at hx
    split at hx
    · rename_i g first captured
      cases hx
      generalize hz : a.eval f = z at hv
      cases hv with
      | func _ g' _ _ a' c' hfn ha hcp =>
        refine ⟨⟨.fn g' c', a' ++ c.args.map a.eval⟩, ?_, .mk _ _ _ _ _ _ hfn hcp ?_⟩
        · simp only [resolve, hc, hz, Deferred.ofValue, Sem.run_bind, Sem.run_pure, Result.andThen_ok]
        · simp only [Array.toList_append, Array.toList_map]
          exact ha.append hls
    · cases hx
  · cases hx

theorem opA_ok (EO : EnvOk P E) (r : R N φ h w) (hf : FrR φ nt fr a.tmps) {o : Oper} {x : OpR} (hx : opA E h fr o.op = some x) : OpOk P N φ h w (execOp a.eval o) x := by
  obtain ⟨dst, op, ty⟩ := o
  simp only at hx
  unfold opA at hx
  split at hx
  · obtain ⟨v, hv, rfl⟩ := oVal_inv hx
    exact OpOk.pure (s := pure _) rfl (opnd_VR hf hv)
  · obtain ⟨v, hv, rfl⟩ := oVal_inv hx
    exact OpOk.pure (s := pure _) rfl (opnd_VR hf hv)
  · rename_i c b d
    obtain ⟨v, hv, hx⟩ := o1Inv hx
    have := pick_ok (P := P) (N := N) (h := h) (w := w) (opnd_VR hf hv) (fun u e => opnd_VR hf e) (fun u e => opnd_VR hf e) hx
    exact this
  · exact alloc_ok EO r hx
  · obtain ⟨v, hv, hx⟩ := o1Inv hx
    exact box_ok r (opnd_VR hf hv) hx
  · obtain ⟨v, hv, hx⟩ := oP_inv hx
    exact build_ok EO (by simpa using partsA_PsR hf hv) hx
  · obtain ⟨v, hv, hx⟩ := oP_inv hx
    exact buildSlice_ok EO r (by simpa using partsA_PsR hf hv) hx
  · obtain ⟨v, hv, hx⟩ := o1Inv hx
    obtain ⟨u, hu, rfl⟩ := oVal_inv hx
    obtain ⟨y, hy, hr⟩ := run_loadAt EO r (opnd_VR hf hv) hu
    exact OpOk.pure hy hr
  · obtain ⟨v, u, hv, hu, hx⟩ := o2Inv hx
    obtain ⟨h', hh, rfl⟩ := oMem_inv hx
    obtain ⟨w', hw, hs⟩ := run_storeVar_at (P := P) EO r (opnd_VR hf hv) (opnd_VR hf hu) hh
    exact OpOk.unit hw hs
  · obtain ⟨v, hv, hx⟩ := o1Inv hx
    exact nilCheck_ok (opnd_VR hf hv) hx rfl rfl
  · obtain ⟨v, u, hv, hu, hx⟩ := o2Inv hx
    exact binA_ok EO r (opnd_VR hf hv) (opnd_VR hf hu) hx
  · obtain ⟨v, hv, hx⟩ := o1Inv hx
    exact unOp_ok (opnd_VR hf hv) hx
  · obtain ⟨v, hv, hx⟩ := o1Inv hx
    exact conv_ok EO r (opnd_VR hf hv) hx
  · obtain ⟨v, hv, hx⟩ := o1Inv hx
    exact iface_ok EO (opnd_VR hf hv) hx
  · obtain ⟨l, hl, hx⟩ := oL_inv hx
    obtain ⟨m, hm, hx⟩ := oL_inv hx
    unfold mkFunc at hx
    split at hx
    · cases hx
    · rename_i hny
      cases hx
      refine OpOk.pure (s := Instr.makeFunc _ _ _) rfl (.func _ _ _ _ _ _ (.same _ fun l e => hny l e) (by simpa using opnds_VRs hf hl) (by simpa using opnds_VRs hf hm))
  · unfold makeMapA at hx
    split at hx
    · split at hx
      · cases hx
        refine OpOk.made (x := .map (some w.heap.size)) (w' := { w with heap := w.heap.push (.map #[] 0) }) ?_ (.map _ ⟨w.heap.size, 0, 0, 0⟩ (Phi.put_same _ _ _) rfl)
          (Sim.alloc (o := .map [] 0) r (AHeap.next_new _ _) (fun c => AHeap.get_new _ _ _) (by simp) (fun k hk => World.heap_push_old w _ k hk) ⟨rfl, rfl, rfl⟩ ⟨rfl, #[], by simp, .nil⟩)
        simp [Instr.makeMap, Option.map]
      · cases hx
    · cases hx
  · obtain ⟨v, u, hv, hu, hx⟩ := o2Inv hx
    exact makeSlice_ok EO r (opnd_VR hf hv) (opnd_VR hf hu) hx
  · obtain ⟨v, hv, hx⟩ := o1Inv hx
    obtain ⟨lo, hlo, hx⟩ := oO_inv hx
    obtain ⟨hi, hhi, hx⟩ := oO_inv hx
    obtain ⟨mx, hmx, hx⟩ := oO_inv hx
    exact slice_ok EO r (opnd_VR hf hv) (OR.of hf hlo) (OR.of hf hhi) (OR.of hf hmx) hx
  · obtain ⟨v, hv, hx⟩ := o1Inv hx
    exact fieldAddr_ok EO (opnd_VR hf hv) hx
  · obtain ⟨v, hv, hx⟩ := o1Inv hx
    exact field_ok EO (opnd_VR hf hv) hx
  · obtain ⟨v, u, hv, hu, hx⟩ := o2Inv hx
    exact indexAddr_ok EO (opnd_VR hf hv) (opnd_VR hf hu) hx
  · obtain ⟨v, u, hv, hu, hx⟩ := o2Inv hx
    exact index_ok EO (opnd_VR hf hv) (opnd_VR hf hu) hx
  · obtain ⟨v, u, hv, hu, hx⟩ := o2Inv hx
    obtain ⟨q, hq, rfl⟩ := oVal_inv hx
    obtain ⟨y, hy, hr⟩ := lookup_ok EO r (opnd_VR hf hv) (opnd_VR hf hu) hq
    exact OpOk.pure hy hr
  · obtain ⟨v, u, hv, hu, hx⟩ := o2Inv hx
    obtain ⟨q, hq, hx⟩ := o1Inv hx
    obtain ⟨h', hh, rfl⟩ := oMem_inv hx
    obtain ⟨w', hw, hs⟩ := mapUpdate_ok (P := P) EO r (opnd_VR hf hv) (opnd_VR hf hu) (opnd_VR hf hq) hh
    exact OpOk.unit hw hs
  · obtain ⟨v, hv, hx⟩ := o1Inv hx
    exact range_ok EO r (opnd_VR hf hv) hx
  · obtain ⟨v, hv, hx⟩ := o1Inv hx
    exact next_ok r (opnd_VR hf hv) hx
  · obtain ⟨v, hv, hx⟩ := o1Inv hx
    exact typeAssert_ok EO (opnd_VR hf hv) hx
  · obtain ⟨v, hv, hx⟩ := o1Inv hx
    exact extract_ok (opnd_VR hf hv) hx
  · exact call_ok EO r hf rfl hx
  · exact defer_ok hf rfl hx
  · cases hx
end
end Go.Abs
