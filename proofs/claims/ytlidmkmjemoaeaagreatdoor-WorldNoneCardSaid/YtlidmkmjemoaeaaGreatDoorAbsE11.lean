/- The abstract machine: iterators, append, copy, both machines; no conditions. -/
import Derived.Test.YtlidmkmjemoaeaaGreatDoorAbsE10
set_option linter.unusedVariables false
set_option linter.unusedSimpArgs false
set_option linter.unusedSectionVars false
namespace Go.Abs
variable [Opq]
open Go
section
variable {P : Program} {E : Env} {N : FuncId → Nat} {φ : Phi} {h : AHeap} {w : World}

theorem unseen_spec (seen : List Nat) : ∀ {es : List (AV × AV × Nat)} {m : List MapEntry}, EsR φ es m → EsR φ (unseen seen es) (m.filter fun e => !seen.contains e.born)
  | _, _, .nil => .nil
  | _, _, .cons k v b x y l m hk hv hl => by
    have ih := unseen_spec seen hl
    simp only [unseen]
    split
    · rename_i e
      rw [List.filter_cons_of_neg (by simpa using e)]; exact ih
    · rename_i e
      have e : seen.contains b = false := by simpa using e
      rw [List.filter_cons_of_pos (by show (!seen.contains b) = true; rw [e]; rfl)]; exact .cons _ _ _ _ _ _ _ hk hv ih

theorem allNew_spec (last : Nat) : ∀ {es : List (AV × AV × Nat)} {m : List MapEntry}, EsR φ es m → (m.all fun e => decide (e.born ≥ last)) = allNew last es
  | _, _, .nil => rfl
  | _, _, .cons k v b x y l m hk hv hl => by
    simp only [allNew, List.all_cons, allNew_spec last hl]
    congr 1
    rw [Bool.eq_iff_iff]; simp

theorem EsR.isEmpty {es : List (AV × AV × Nat)} {m : List MapEntry} (h : EsR φ es m) : m.isEmpty = es.isEmpty := by cases h <;> rfl

theorem next_ok (r : R N φ h w) {v : AV} {y : Value} {s : Bool} {ty : TypeId} {x : OpR} (hv : VR φ v y) (hx : nextA h v s = some x) : OpOk P N φ h w (vSem (Instr.next y s ty)) x := by
  unfold nextA at hx
  split at hx
  · rename_i rr
    cases hv with
    | ptr _ _ p hp =>
      split at hx
      · rename_i since seen last hg
        cases hx
        obtain ⟨h0, m', hm, e⟩ := r.obj rr p _ hp hg
        simp only at e; subst e
        refine OpOk.pure (x := .tuple #[.bool false]) ?_ (.tuple _ _ (.cons _ _ _ _ (.bool _) .nil))
        simp [Instr.next, h0, getObj, Sem.run, hm]
      · rename_i m since seen last hg
        obtain ⟨h0, m', hm, q, hq, e⟩ := r.obj rr p _ hp hg
        subst e
        split at hx
        · rename_i es clock hgm
          obtain ⟨_, es', hes, he⟩ := r.obj m q _ hq hgm
          unfold nextM at hx
          split at hx
          · cases hx
          · rename_i hguard
            have hu := unseen_spec seen he
            have hg1 : (!seen.isEmpty && !es'.isEmpty && es'.all fun e => decide (e.born ≥ last)) = false := by
              rw [← Array.all_toList, allNew_spec last he]
              have : es'.isEmpty = es.isEmpty := by rw [← he.isEmpty]; simp
              rw [this]; exact hguard
            have hg2 : (!(seen.toArray).isEmpty && !es'.isEmpty && es'.all fun e => decide (e.born ≥ last)) = false := by simpa using hg1
            have hfl : (es'.filter fun e => !(seen.toArray).contains e.born) = (es'.toList.filter fun e => !seen.contains e.born).toArray := by
              apply Array.toList_inj.1; simp
            have hobj : (getObj p.blk).run P w = .ok (.mapIter (some q.blk) since seen.toArray last) w := by simp [getObj, Sem.run, hm]
            split at hx
            · rename_i hun
              cases hx
              rw [hun] at hu
              have hnil : (es'.toList.filter fun e => !seen.contains e.born) = [] := by
                generalize (es'.toList.filter fun e => !seen.contains e.born) = fl at hu
                cases hu; rfl
              refine OpOk.pure (x := .tuple #[.bool false]) ?_ (.tuple _ _ (.cons _ _ _ _ (.bool _) .nil))
              simp only [Instr.next, h0, Nat.zero_add, Sem.run_bind, hobj, Result.andThen_ok, run_getMap hes, hg2, hfl, hnil]
              simp [choose, Sem.run, Question.forced]
            · rename_i k u b hun
              split at hx
              · rename_i hb
                have hb : b < since := by simp at hb; omega
                cases hx
                rw [hun] at hu
                obtain ⟨fl, hone⟩ : ∃ fl, (es'.toList.filter fun e => !seen.contains e.born) = fl := ⟨_, rfl⟩
                rw [hone] at hu
                cases hu with
                | cons _ _ _ y z _ m2 hk hvv hl2 =>
                  cases hl2
                  have hone' : (es'.toList.filter fun e => !seen.contains e.born) = [⟨y, z, b⟩] := hone
                  let w' : World := { w with heap := w.heap.setIfInBounds p.blk (.mapIter (some q.blk) since (seen.toArray.push b) clock) }
                  have hlt := (r.dom rr p hp).2
                  have hsim : Sim N φ h w φ (h.put rr (.mapIter (some m) since (seen ++ [b]) clock)) w' := by
                    refine Sim.upd r hp hg rfl (fun d => AHeap.get_put _ _ _ _) (by simp [w']) (fun k hk => ?_) ⟨rfl, rfl, rfl⟩ ⟨h0, some q.blk, ?_, q, hq, rfl⟩
                    · simp only [w', Array.getElem?_setIfInBounds]; rw [if_neg (by omega)]
                    · simp [w', hlt]
                  refine OpOk.made (x := .tuple #[.bool true, y, z]) (w' := w') ?_ (.tuple _ _ (.cons _ _ _ _ (.bool _) (.cons _ _ _ _ hk (.cons _ _ _ _ hvv .nil)))) hsim
                  simp only [Instr.next, h0, Nat.zero_add, Sem.run_bind, hobj, Result.andThen_ok, run_getMap hes, hg2, hfl, hone']
                  simp [choose, Sem.run, Question.forced, hb, setObj, hm, w', Nat.not_le.2 hb]
              · cases hx
            · cases hx
        · cases hx
      · cases hx
  · cases hx

/-! ### append and copy -/
theorem take_cells (l : List UInt8) : ∀ n, cellsOfBytes (l.take n) = (cellsOfBytes l).take n := by
  induction l with
  | nil => intro n; simp [cellsOfBytes]
  | cons b l ih => intro n; cases n with
    | zero => simp [cellsOfBytes]
    | succ n => simp [cellsOfBytes, fNat_eq, ih]

theorem firstA_ok (r : R N φ h w) {z n : Nat} {v : AV} {y : Value} {l : List AV} (hv : VR φ v y) (hf : firstA h z n v = some l) :
    ∃ m : Array Value, (Builtin.firstCells z n y).run P w = .ok m w ∧ VRs φ l m.toList := by
  unfold firstA at hf
  split at hf
  · cases hf; cases hv; exact ⟨#[], rfl, .nil⟩
  · cases hv with
    | slice0 _ o c p hp ho hr =>
      split at hf
      · cases hf
        exact ⟨#[], by simpa [Builtin.firstCells] using run_loadCells_at P w p.blk o 0 [] rfl (fun j x h => by simp at h), .nil⟩
      · cases hf
  · rename_i b o len cc
    cases hv with
    | sliceX _ _ _ c p hp =>
      obtain ⟨m, hm, hn, hc⟩ := load_cells r hp hf
      exact ⟨m.toArray, run_loadCells_at P w p.blk _ _ m hn hc, by simpa using hm⟩
    | sliceU _ _ _ c p hp _ _ =>
      obtain ⟨m, hm, hn, hc⟩ := load_cells r hp hf
      exact ⟨m.toArray, run_loadCells_at P w p.blk _ _ m hn hc, by simpa using hm⟩
  · rename_i s
    cases hv with
    | str s' _ hs =>
      split at hf <;> cases hf
      refine ⟨(s'.extract 0 n).data.map fun b => .int .u8 b.toNat, rfl, ?_⟩
      have := (cellsOfBytes_VRs (φ := φ) (s.take n)).1
      have e : ((s'.extract 0 n).data.map fun b => Value.int .u8 b.toNat).toList = (s.take n).map fun b => Value.int .u8 b.toNat := by
        rw [← hs]; simp [ByteArray.data_extract]
      rw [e]; exact this
  · cases hf

theorem lenA_ok {v : AV} {y : Value} {n : Nat} (hv : VR φ v y) (hl : lenA v = some n) : (Builtin.lenOf y).run P w = .ok n w := by
  unfold lenA at hl
  split at hl
  · cases hl; cases hv; rfl
  · cases hl; cases hv; rfl
  · cases hl; cases hv <;> rfl
  · cases hl
    cases hv with
    | str s' _ hs => rw [← hs]; rfl
  · cases hl

theorem growBy_le (need : Nat) : ∀ (r c M : Nat), c ≤ M → need + (need + 768) / 4 ≤ M → Builtin.growBy need r c ≤ M
  | 0, c, M, h, _ => h
  | r + 1, c, M, h, h2 => by
    simp only [Builtin.growBy]
    split
    · exact h
    · exact growBy_le need r _ M (by omega) h2
theorem nextslicecap_le {need cap : Nat} (hlt : cap < need) : Builtin.nextslicecap need cap ≤ 2 * need + 768 := by
  unfold Builtin.nextslicecap
  split
  · omega
  · split
    · omega
    · exact growBy_le need 4 cap _ (by omega) (by omega)

theorem zeroCells_size (z : Array Value) (n : Nat) : (Builtin.zeroCells z n).size = n * z.size := by simp [Builtin.zeroCells]
end
end Go.Abs
