/- The abstract machine: conversions, assertions, maps, iterators, both machines; no conditions. -/
import Derived.Test.YtlidmkmjemoaeaaGreatDoorAbsE7
import Derived.Laws.LoneSync
import Derived.Laws.BytesString
set_option linter.unusedVariables false
set_option linter.unusedSimpArgs false
set_option linter.unusedSectionVars false
namespace Go.Abs
variable [Opq]
open Go
section
variable {P : Program} {E : Env} {N : FuncId → Nat} {φ : Phi} {h : AHeap} {w : World}

theorem bytesOf_spec : ∀ (l : List AV) (s : List UInt8) (m : List Value), bytesOf l = some s → VRs φ l m → ∃ ns : List Int, m = ns.map (Value.int .u8) ∧ s = ns.map fun n => UInt8.ofNat n.toNat
  | [], s, m, h, hm => by cases hm; simp only [bytesOf] at h; cases h; exact ⟨[], rfl, rfl⟩
  | v :: l, s, m, h, hm => by
    cases hm with
    | cons _ x _ m' hx hl =>
      cases v with
      | int k n =>
        cases k <;> simp only [bytesOf] at h <;> try (cases h; done)
        split at h
        · rename_i r hr
          cases h
          obtain ⟨ns, e1, e2⟩ := bytesOf_spec l r m' hr hl
          cases hx
          exact ⟨n :: ns, by simp [e1], by simp [e2]⟩
        · cases h
      | _ => simp [bytesOf] at h

theorem push_bytes : ∀ (ns : List Int) (s : ByteArray), (ns.foldl (fun r n => r.push (UInt8.ofNat n.toNat)) s).data.toList = s.data.toList ++ ns.map fun n => UInt8.ofNat n.toNat
  | [], s => by simp
  | n :: ns, s => by
    rw [List.foldl_cons, push_bytes ns]
    simp [ByteArray.push]

theorem cellsOfBytes_VRs : ∀ (l : List UInt8), VRs φ (cellsOfBytes l) (l.map fun b => Value.int .u8 b.toNat) ∧ allFlat (cellsOfBytes l) = true ∧ (cellsOfBytes l).length = l.length
  | [] => ⟨.nil, rfl, rfl⟩
  | b :: l => by
    obtain ⟨h1, h2, h3⟩ := cellsOfBytes_VRs l
    simp only [cellsOfBytes, fNat_eq]
    exact ⟨.cons _ _ _ _ (.int _ _) h1, by simp [allFlat, AV.flat, h2], by simp [h3]⟩

/-- A new row that has room behind its cells, and a mark behind that. -/
theorem Sim.rowRoom (r : R N φ h w) (e : TypeId) (ez : Nat) (st : Bool) (l : List AV) (c : Array Value) (fz : Nat × Nat) (w' : World) (hl : VRs φ l (c.toList.take l.length)) (hle : l.length ≤ c.size) (hf : allFlat l = true)
    (hs : w'.heap.size = w.heap.size + 1) (hk : ∀ k, k < w.heap.size → w'.heap[k]? = w.heap[k]?) (hc : w'.heap[w.heap.size]? = some (.cells c e fz)) (ha : Alike w w')
    (hfz : ∀ i, i < c.size → ¬ (fz.1 ≤ i ∧ i < fz.2)) (hst : st = false → fz = (0, 0)) :
    Sim N φ h w (φ.put h.next ⟨w.heap.size, 0, c.size, ez⟩) (h.row e l st ez) w' := by
  refine Sim.alloc (room := c.size) (esz := ez) r rfl (fun d => AHeap.get_new _ _ _) hs hk ha ?_
  refine ⟨rfl, c, fz, hc, by simp, hle, fun i _ h => by simp at h; exact hfz i h, hst, ?_⟩
  intro i v hv
  rw [PT.get_ofList] at hv
  split at hv
  · rename_i hi
    simp only [Nat.sub_zero] at hv
    obtain ⟨x, hx, hr⟩ := hl.get i v hv
    have hfl : ∀ (l : List AV), allFlat l = true → ∀ (i : Nat) (v : AV), l[i]? = some v → v.flat = true := by
      intro l
      induction l with
      | nil => intro _ i v h; simp at h
      | cons a l ih =>
        intro hh i v h
        simp only [allFlat] at hh
        split at hh
        · rename_i ha
          cases i with
          | zero => simp at h; subst h; exact ha
          | succ i => exact ih hh i v (by simpa using h)
        · cases hh
    refine ⟨by omega, hfl l hf i v hv, x, ?_, hr.mono (Phi.le_put r _)⟩
    rw [List.getElem?_take, if_pos (by omega)] at hx
    simpa using hx
  · simp [PT.get_lf] at hv

theorem heap_freeze (W : World) (g n : Nat) (c : Array Value) (e : TypeId) (hg : W.heap[g]? = some (.cells c e)) (k : Nat) :
    (W.freeze ⟨g, n, none⟩ 1).heap[k]? = if k = g then some (.cells c e (n, n + 1)) else W.heap[k]? := by
  unfold World.freeze
  rw [if_neg (by decide)]
  simp only [Array.getElem?_modify]
  by_cases e1 : g = k
  · subst e1; simp [hg]
  · rw [if_neg e1, if_neg (fun h => e1 h.symm)]

theorem conv_ok (EO : EnvOk P E) (r : R N φ h w) {s d : TypeId} {v : AV} {y : Value} {x : OpR} (hv : VR φ v y) (hx : convA E h s d v = some x) : OpOk P N φ h w (vSem (convert s d y)) x := by
  unfold convA at hx
  split at hx
  · rename_i si di hs hd
    have us := EO.under hs w
    have ud := EO.under hd w
    split at hx
    · rename_i hdesc
      cases hv; cases vInt_inv hx
      refine OpOk.pure (x := .int _ _) ?_ (.int _ _)
      simp [convert, us, ud, hdesc, Conv.intToInt]
    · rename_i hdesc
      cases hx
      cases hv with
      | str s' _ e =>
        refine OpOk.pure (x := .string s') ?_ (.str _ _ e)
        simp [convert, us, ud, hdesc]
    · rename_i t b o hsd hdd
      split at hx
      · rename_i y v0 hy hl
        split at hx
        · rename_i hsz
          cases hx
          cases hv with
          | ptr _ _ p hp =>
            obtain ⟨m, hm, hn, hc⟩ := load_cells r hp hl
            have hm0 : m[0]? = some (m[0]'(by omega)) := List.getElem?_eq_getElem (by omega)
            have hcell := hc 0 _ hm0
            rw [Nat.add_zero] at hcell
            obtain ⟨xs, _, hus, _⟩ := EO.info s si hs
            obtain ⟨xd, _, hud, _⟩ := EO.info d di hd
            obtain ⟨xt, hit, _, hst, _⟩ := EO.info t y hy
            rw [hsd] at hus; rw [hdd] at hud
            have hsz : 1 ≤ y.size := by simpa using hsz
            have hz : (P.info? t).map (fun i => decide (i.size = 0)) = some false := by
              rw [hit]
              have : ¬ xt.size = 0 := by omega
              simp [this]
            exact OpOk.pure (run_convert_to_unsafe hus hud hz hcell) (.ptr _ _ _ hp)
        · cases hx
      · cases hx
    · rename_i e l hsd hdd
      cases hv with
      | str s' _ hl =>
        split at hx
        · rename_i ei he
          split at hx
          · rename_i hed
            cases hx
            have ue := EO.under he w
            have hq : (Question.appendCap s'.size 0 e).forced = false := rfl
            have hlen : l.length = s'.size := by rw [← hl]; exact Array.length_toList
            obtain ⟨n, hn, hle⟩ : ∃ n, (Question.appendCap s'.size 0 e).cut (w.tape w.drawn (.appendCap s'.size 0 e)) = n ∧ s'.size ≤ n := ⟨_, rfl, by simp only [Question.cut]; omega⟩
            obtain ⟨c1, c2, c3⟩ := cellsOfBytes_VRs (φ := φ) l
            let c : Array Value := (s'.data.map fun b => Value.int .u8 b.toNat) ++ Array.replicate (n - s'.size) (.int .u8 0)
            have hcs : c.size = n := by
              have : s'.data.size = s'.size := rfl
              simp [c]; omega
            have hctl : c.toList = (l.map fun b => Value.int .u8 b.toNat) ++ List.replicate (n - s'.size) (.int .u8 0) := by
              simp [c, hl]
            let w1 : World := { w with drawn := w.drawn + 1 }
            let w2 : World := { w1 with heap := w1.heap.push (.cells c e) }
            let w' : World := w2.freeze ⟨w.heap.size, n, none⟩ 1
            have hg2 : w2.heap[w.heap.size]? = some (.cells c e) := by simp [w2, w1]
            have hfr := heap_freeze w2 w.heap.size n c e hg2
            have hheap : w'.heap[w.heap.size]? = some (.cells c e (n, n + 1)) := by
              rw [hfr, if_pos rfl]
            have hold : ∀ k, k < w.heap.size → w'.heap[k]? = w.heap[k]? := fun k hk => by
              rw [hfr, if_neg (by omega)]
              exact World.heap_push_old w _ k hk
            have hsim := Sim.rowRoom (N := N) (w' := w') r e 1 true (cellsOfBytes l) c (n, n + 1)
              (by rw [hctl, c3, List.take_append_of_le_length (by simp), List.take_of_length_le (by simp)]; exact c1) (by rw [c3, hcs, hlen]; exact hle) c2
              (by simp [w', w2, w1, World.freeze]) hold hheap ⟨rfl, rfl, rfl⟩ (fun i hi => by simp; omega) (fun e => by cases e)
            refine OpOk.made (x := .slice (some ⟨w.heap.size, 0, none⟩) s'.size n) (w' := w') ?_ ?_ hsim
            · simp only [convert, Sem.run_bind, us, ud, hsd, hdd, Result.andThen_ok, ue, hed, Conv.stringToBytes, run_choose, hq, hn]
              simp only [Bool.false_eq_true, if_false, Result.andThen_ok, newRow, Sem.run_bind, run_newObj, Sem.run_pure, markStringish, run_shape]
              have hshape : w2.shape? w.heap.size = some (e, c.size) := by simp [World.shape?, hg2]
              show ((match w2.shape? w.heap.size with | some (_, n) => freeze { block := w.heap.size, off := n } 1 | _ => pure ()).run P w2).andThen _ = _
              rw [hshape, hcs]
              rfl
            · rw [← hlen]
              refine .sliceU _ _ _ _ _ (Phi.put_same _ _ _) (by omega) ?_
              simp [hcs]
          · cases hx
        · cases hx
    · rename_i e hsd hdd
      cases hv
      split at hx
      · rename_i ei he
        split at hx
        · rename_i hed
          cases hx
          refine OpOk.pure (x := .string .empty) ?_ (.str _ _ rfl)
          simp [convert, us, ud, hsd, hdd, EO.under he, hed, Conv.bytesToString]
        · cases hx
      · cases hx
    · rename_i e b hsd hdd
      cases hv with
      | slice0 _ o c p hp ho hr =>
        split at hx
        · rename_i ei he
          split at hx
          · rename_i hed
            cases hx
            refine OpOk.pure (x := .string .empty) ?_ (.str _ _ rfl)
            have := run_bytesToString (P := P) w ⟨p.blk, o, none⟩ 0 c [] (run_loadCells_at P w p.blk o 0 [] rfl (fun j x h => by simp at h))
            simp [convert, us, ud, hsd, hdd, EO.under he, hed, this]
          · cases hx
        · cases hx
    · rename_i e b o n cc hsd hdd
      split at hx
      · rename_i ei he
        split at hx
        · rename_i hed
          split at hx
          · rename_i l hl
            split at hx
            · rename_i bs hbs
              cases vStr_inv hx
              have key : ∀ p c, φ b = some p → (convert s d (.slice (some ⟨p.blk, p.base + o, none⟩) n c)).run P w = .ok (.string (ByteArray.mk bs.toArray)) w := by
                intro p c hp
                obtain ⟨m, hm, hmn, hc⟩ := load_cells r hp hl
                obtain ⟨ns, e1, e2⟩ := bytesOf_spec l bs m hbs hm
                have hload := run_loadCells_at P w p.blk (p.base + o) n m hmn hc
                rw [e1] at hload
                have := run_bytesToString (P := P) w ⟨p.blk, p.base + o, none⟩ n c ns hload
                simp only [convert, Sem.run_bind, us, ud, hsd, hdd, Result.andThen_ok, EO.under he, hed, this]
                congr 2
                have hh := push_bytes ns ByteArray.empty
                have : (ns.foldl (fun r n => r.push (UInt8.ofNat n.toNat)) ByteArray.empty) = ByteArray.mk bs.toArray := by
                  apply ByteArray.ext
                  rw [e2]
                  apply Array.toList_inj.1
                  rw [hh]
                  simp
                rw [this]
              cases hv with
              | sliceX _ _ _ c p hp => exact OpOk.pure (key p _ hp) (.str _ _ (by simp))
              | sliceU _ _ _ c p hp _ _ => exact OpOk.pure (key p _ hp) (.str _ _ (by simp))
            · cases hx
          · cases hx
        · cases hx
      · cases hx
    · cases hx
  · cases hx
end
end Go.Abs
