/- The abstract machine: slices of strings, arrays and slices; conversions; assertions; both machines; no conditions. -/
import Derived.Test.YtlidmkmjemoaeaaGreatDoorAbsE4
set_option linter.unusedVariables false
set_option linter.unusedSimpArgs false
set_option linter.unusedSectionVars false
namespace Go.Abs
variable [Opq]
open Go
section
variable {P : Program} {E : Env} {N : FuncId → Nat} {φ : Phi} {h : AHeap} {w : World}

/-- An operand that may be missing. -/
def OR (φ : Phi) (v : Option AV) (y : Option Value) : Prop := (v = none ∧ y = none) ∨ ∃ u z, v = some u ∧ y = some z ∧ VR φ u z

theorem run_bound {k : IntKind} {m top : Nat} {code : BoundsCode} (hm : m ≤ top) : (Instr.sliceBound (.int k (m : Int)) top code).run P w = .ok m w := by
  simp [Instr.sliceBound, asIntOf, hm]

/-- The bounds of a slice; 'top': up to where the abstract machine looks, 'cap': the machine. -/
theorem run_bounds {isSlice : Bool} {len cap top : Nat} {lo hi mx : Option AV} {lo' hi' mx' : Option Value} (hlo : OR φ lo lo') (hhi : OR φ hi hi') (hmx : OR φ mx mx')
    {m hh l : Nat} (hmh : (mx.isSome && hi.isNone) = false) (htop : top ≤ cap) (h1 : bnd mx top top = some m) (h2 : bnd hi len m = some hh) (h3 : bnd lo 0 hh = some l) :
    (mx = none ∧ (Instr.sliceBounds isSlice len cap lo' hi' mx').run P w = .ok (l, hh, cap) w) ∨ (mx.isSome = true ∧ (Instr.sliceBounds isSlice len cap lo' hi' mx').run P w = .ok (l, hh, m) w) := by
  rcases bnd_spec hmx h1 with ⟨e1, e2, e3⟩ | ⟨k1, e1, e2, e3⟩
  · left
    subst e3
    refine ⟨e1, ?_⟩
    rcases bnd_spec hhi h2 with ⟨_, f2, f3⟩ | ⟨k2, _, f2, f3⟩
    · subst f3
      rcases bnd_spec hlo h3 with ⟨_, g2, g3⟩ | ⟨k3, _, g2, g3⟩
      · subst g3; simp [Instr.sliceBounds, e2, f2, g2]
      · simp [Instr.sliceBounds, e2, f2, g2, run_bound g3]
    · rcases bnd_spec hlo h3 with ⟨_, g2, g3⟩ | ⟨k3, _, g2, g3⟩
      · subst g3; simp [Instr.sliceBounds, e2, f2, g2, run_bound (Nat.le_trans f3 htop)]
      · simp [Instr.sliceBounds, e2, f2, g2, run_bound (Nat.le_trans f3 htop), run_bound g3]
  · right
    refine ⟨e1, ?_⟩
    rcases bnd_spec hhi h2 with ⟨f1, f2, f3⟩ | ⟨k2, _, f2, f3⟩
    · rw [e1, f1] at hmh; simp at hmh
    · rcases bnd_spec hlo h3 with ⟨_, g2, g3⟩ | ⟨k3, _, g2, g3⟩
      · subst g3; simp [Instr.sliceBounds, e2, f2, g2, run_bound (Nat.le_trans e3 htop), run_bound f3]
      · simp [Instr.sliceBounds, e2, f2, g2, run_bound (Nat.le_trans e3 htop), run_bound f3, run_bound g3]

theorem bnd_le {v : Option AV} {d top m : Nat} (h : bnd v d top = some m) (hd : d ≤ top) : m ≤ top := by
  unfold bnd at h
  split at h
  · cases h; exact hd
  · split at h
    · rename_i hb; cases h; simpa using hb
    · cases h
  · cases h

theorem cutX_inv {b o z l hh m : Nat} {r : OpR} (h : cutX b o z l hh m = some r) : r = .val (.slice b (if m = l then o else o + l * z) (hh - l) (some (m - l))) := by
  unfold cutX at h
  split at h
  · rename_i e
    have : m = l := Nat.eq_of_beq_eq_true e
    cases h; rw [if_pos this]
  · rename_i e
    have : m ≠ l := by rw [← Bool.not_eq_true, Nat.beq_eq] at e; exact e
    rw [fNat_eq, fNat_eq, fNat_eq] at h
    cases h; rw [if_neg this]

theorem add_if (g b o z l m : Nat) : (if m = l then (⟨g, b + o, none⟩ : Addr) else (⟨g, b + o, none⟩ : Addr).add (l * z)) = ⟨g, b + (if m = l then o else o + l * z), none⟩ := by
  split
  · rfl
  · rw [Addr.add_lit, Nat.add_assoc]

theorem rowEz_spec (r : R N φ h w) {b z : Nat} {p : Loc} (hb : φ b = some p) (hz : rowEz h b z = true) : p.esz = z := by
  unfold rowEz at hz
  split at hz
  · rename_i ho
    obtain ⟨h0, _⟩ := r.obj b p _ hb ho
    exact h0.trans (Nat.eq_of_beq_eq_true hz)
  · cases hz

theorem sliceStr_ok {t : TypeId} {s : List UInt8} {s' : ByteArray} {lo hi : Option AV} {lo' hi' : Option Value} {x : OpR} (EO : EnvOk P E) {d : TInf} (hd : E.ti.get t = some d) (hdesc : d.desc = .string)
    (hs : s'.data.toList = s) (hlo : OR φ lo lo') (hhi : OR φ hi hi') (hx : sliceStr s lo hi = some x) : OpOk P N φ h w (vSem (Instr.sliceAt t (.string s') lo' hi' none)) x := by
  unfold sliceStr at hx
  have hlen : s.length = s'.size := by rw [← hs]; exact Array.length_toList
  split at hx
  · rename_i hh h2
    split at hx
    · rename_i l h3
      cases vStr_inv hx
      rw [hlen] at h2
      have hl := bnd_le h3 (Nat.zero_le _)
      have hhs := bnd_le h2 (Nat.le_refl _)
      have := run_bounds (P := P) (w := w) (isSlice := false) (mx := none) (mx' := none) hlo hhi (.inl ⟨rfl, rfl⟩) rfl (Nat.le_refl s'.size) (m := s'.size) rfl h2 h3
      rcases this with ⟨_, hrun⟩ | ⟨hbad, _⟩
      · refine OpOk.pure (x := .string (s'.extract l hh)) ?_ (.str _ _ ?_)
        · simp [Instr.sliceAt, EO.under hd, hdesc, Instr.slice, hrun]
        · rw [← hs]
          simp [ByteArray.data_extract]
      · cases hbad
    · cases hx
  · cases hx

theorem slice_ok (EO : EnvOk P E) (r : R N φ h w) {t : TypeId} {v : AV} {y : Value} {lo hi mx : Option AV} {lo' hi' mx' : Option Value} {x : OpR} (hv : VR φ v y) (hlo : OR φ lo lo') (hhi : OR φ hi hi') (hmx : OR φ mx mx')
    (hx : sliceA E h t v lo hi mx = some x) : OpOk P N φ h w (vSem (Instr.sliceAt t y lo' hi' mx')) x := by
  unfold sliceA at hx
  split at hx
  · rename_i d hd
    split at hx
    · rename_i hdesc
      split at hx
      · rename_i s
        cases hv with
        | str s' _ hs =>
          rcases hmx with ⟨_, rfl⟩ | ⟨_, _, e, _⟩
          · exact sliceStr_ok EO hd hdesc hs hlo hhi hx
          · cases e
      · cases hx
    · rename_i e hdesc
      unfold sliceV at hx
      split at hx
      · rename_i z hz
        obtain ⟨i, hsz, rfl⟩ := sizeA_spec hz
        split at hx
        · rename_i b o len cap
          cases hv with
          | sliceX _ _ _ _ p hp =>
            unfold sliceX at hx
            split at hx
            · rename_i m hmh h1
              split at hx
              · rename_i hh h2
                split at hx
                · rename_i l h3
                  cases cutX_inv hx
                  have hm : mx = none → cap = m := fun e => by subst e; simp [bnd] at h1; exact h1
                  refine OpOk.pure (x := .slice (some ⟨p.blk, p.base + (if m = l then o else o + l * i.size), none⟩) (hh - l) (m - l)) ?_ (.sliceX _ _ _ _ _ hp)
                  have hrun : (Instr.sliceBounds true len cap lo' hi' mx').run P w = .ok (l, hh, m) w := by
                    rcases run_bounds (P := P) (w := w) (isSlice := true) (len := len) hlo hhi hmx hmh (Nat.le_refl cap) h1 h2 h3 with ⟨e, hr⟩ | ⟨_, hr⟩
                    · rw [hm e] at hr ⊢; exact hr
                    · exact hr
                  simp only [Instr.sliceAt, Sem.run_bind, EO.under hd, hdesc, Result.andThen_ok, Instr.slice, hrun, EO.size hsz, Sem.run_pure]
                  rw [← add_if]
                  split <;> rfl
                · cases hx
              · cases hx
            · cases hx
        · rename_i b o len
          cases hv with
          | sliceU _ _ _ c p hp hn hr =>
            split at hx
            · unfold sliceN at hx
              split at hx
              · rename_i hh hez h2
                have hesz := rowEz_spec r hp hez
                split at hx
                · rename_i l h3
                  have hl := bnd_le h3 (Nat.zero_le _)
                  have hhl := bnd_le h2 (Nat.le_refl _)
                  rcases hmx with ⟨_, rfl⟩ | ⟨_, _, e, _⟩
                  · have hrun : (Instr.sliceBounds true len c lo' hi' none).run P w = .ok (l, hh, c) w := by
                      rcases run_bounds (P := P) (w := w) (isSlice := true) (len := len) (cap := c) (top := len) (mx := none) (mx' := none) hlo hhi (.inl ⟨rfl, rfl⟩) rfl hn (m := len) rfl h2 h3 with ⟨_, hr⟩ | ⟨e, _⟩
                      · exact hr
                      · cases e
                    split at hx
                    · rename_i hlt
                      have hlt : l < len := by simp at hlt; omega
                      rw [fNat_eq, fNat_eq] at hx
                      cases hx
                      refine OpOk.pure (x := .slice (some ⟨p.blk, p.base + (o + l * i.size), none⟩) (hh - l) (c - l)) ?_ (.sliceU _ _ _ _ _ hp (by omega) ?_)
                      · simp only [Instr.sliceAt, Sem.run_bind, EO.under hd, hdesc, Result.andThen_ok, Instr.slice, hrun, EO.size hsz, Sem.run_pure]
                        rw [if_neg (by omega)]
                        simp [Addr.add_lit, Nat.add_assoc]
                      · rw [hesz] at hr ⊢
                        have : l * i.size + (c - l) * i.size = c * i.size := by rw [← Nat.add_mul]; congr 1; omega
                        omega
                    · cases hx
                      by_cases hc : c = l
                      · refine OpOk.pure (x := .slice (some ⟨p.blk, p.base + o, none⟩) 0 0) ?_ (.slice0 _ _ _ _ hp (by omega) (by omega))
                        simp only [Instr.sliceAt, Sem.run_bind, EO.under hd, hdesc, Result.andThen_ok, Instr.slice, hrun, EO.size hsz, Sem.run_pure]
                        rw [if_pos hc, show hh - l = 0 by omega, show c - l = 0 by omega]
                      · rename_i hnl
                        have hnl : ¬ l + 1 ≤ len := by rw [← Bool.not_eq_true] at hnl; simpa using hnl
                        refine OpOk.pure (x := .slice (some ⟨p.blk, p.base + o + l * i.size, none⟩) 0 (c - l)) ?_ (.slice0 _ _ _ _ hp (by omega) ?_)
                        · simp only [Instr.sliceAt, Sem.run_bind, EO.under hd, hdesc, Result.andThen_ok, Instr.slice, hrun, EO.size hsz, Sem.run_pure]
                          rw [if_neg hc, show hh - l = 0 by omega]
                          simp [Addr.add_lit]
                        · rw [hesz] at hr ⊢
                          have : l * i.size + (c - l) * i.size = c * i.size := by rw [← Nat.add_mul]; congr 1; omega
                          omega
                  · cases e
                · cases hx
              · cases hx
            · rename_i mv
              split at hx
              · rename_i hez
                unfold sliceX at hx
                split at hx
                · rename_i m hmh h1
                  split at hx
                  · rename_i hh h2
                    split at hx
                    · rename_i l h3
                      cases cutX_inv hx
                      refine OpOk.pure (x := .slice (some ⟨p.blk, p.base + (if m = l then o else o + l * i.size), none⟩) (hh - l) (m - l)) ?_ (.sliceX _ _ _ _ _ hp)
                      have hrun : (Instr.sliceBounds true len c lo' hi' mx').run P w = .ok (l, hh, m) w := by
                        rcases run_bounds (P := P) (w := w) (isSlice := true) (len := len) (cap := c) hlo hhi hmx hmh hn h1 h2 h3 with ⟨e, _⟩ | ⟨_, hr⟩
                        · cases e
                        · exact hr
                      simp only [Instr.sliceAt, Sem.run_bind, EO.under hd, hdesc, Result.andThen_ok, Instr.slice, hrun, EO.size hsz, Sem.run_pure]
                      rw [← add_if]
                      split <;> rfl
                    · cases hx
                  · cases hx
                · cases hx
              · cases hx
        · rename_i b
          cases hv with
          | slice0 _ o c p hp ho hr =>
            split at hx
            · rename_i hez
              have hesz := rowEz_spec r hp hez
              unfold slice0A at hx
              split at hx
              · rename_i hh h2
                split at hx
                · rename_i l h3
                  cases hx
                  have hhl := bnd_le h2 (Nat.le_refl _)
                  have hl := bnd_le h3 (Nat.zero_le _)
                  obtain rfl : hh = 0 := by omega
                  obtain rfl : l = 0 := by omega
                  rcases hmx with ⟨_, rfl⟩ | ⟨_, _, e, _⟩
                  · have hrun : (Instr.sliceBounds true 0 c lo' hi' none).run P w = .ok (0, 0, c) w := by
                      rcases run_bounds (P := P) (w := w) (isSlice := true) (len := 0) (cap := c) (top := 0) (mx := none) (mx' := none) hlo hhi (.inl ⟨rfl, rfl⟩) rfl (Nat.zero_le _) (m := 0) rfl h2 h3 with ⟨_, hr⟩ | ⟨e, _⟩
                      · exact hr
                      · cases e
                    refine OpOk.pure (x := .slice (some ⟨p.blk, o, none⟩) 0 c) ?_ (.slice0 _ _ _ _ hp ho hr)
                    simp only [Instr.sliceAt, Sem.run_bind, EO.under hd, hdesc, Result.andThen_ok, Instr.slice, hrun, EO.size hsz, Sem.run_pure]
                    simp [Addr.add_lit]
                  · cases e
                · cases hx
              · cases hx
            · cases hx
        · cases hv with
          | nilSlice =>
            split at hx
            · rename_i hh h2
              split at hx
              · rename_i l h3
                cases hx
                have hhl := bnd_le h2 (Nat.le_refl _)
                have hl := bnd_le h3 (Nat.zero_le _)
                obtain rfl : hh = 0 := by omega
                obtain rfl : l = 0 := by omega
                rcases hmx with ⟨_, rfl⟩ | ⟨_, _, e, _⟩
                · have hrun : (Instr.sliceBounds true 0 0 lo' hi' none).run P w = .ok (0, 0, 0) w := by
                    rcases run_bounds (P := P) (w := w) (isSlice := true) (len := 0) (cap := 0) (top := 0) (mx := none) (mx' := none) hlo hhi (.inl ⟨rfl, rfl⟩) rfl (Nat.zero_le _) (m := 0) rfl h2 h3 with ⟨_, hr⟩ | ⟨e, _⟩
                    · exact hr
                    · cases e
                  refine OpOk.pure (x := .slice none 0 0) ?_ .nilSlice
                  simp only [Instr.sliceAt, Sem.run_bind, EO.under hd, hdesc, Result.andThen_ok, Instr.slice, hrun, EO.size hsz, Sem.run_pure]
                  simp
                · cases e
              · cases hx
            · cases hx
        · cases hx
      · cases hx
    · rename_i n e hdesc
      split at hx
      · rename_i b o z hz
        obtain ⟨i, hsz, rfl⟩ := sizeA_spec hz
        cases hv with
        | ptr _ _ p hp =>
          rcases hmx with ⟨_, rfl⟩ | ⟨_, _, e, _⟩
          · unfold sliceX at hx
            split at hx
            · rename_i m hmh h1
              split at hx
              · rename_i hh h2
                split at hx
                · rename_i l h3
                  cases cutX_inv hx
                  obtain rfl : n = m := by simp [bnd] at h1; exact h1
                  refine OpOk.pure (x := .slice (some ⟨p.blk, p.base + (if n = l then o else o + l * i.size), none⟩) (hh - l) (n - l)) ?_ (.sliceX _ _ _ _ _ hp)
                  have hrun : (Instr.sliceBounds false n n lo' hi' none).run P w = .ok (l, hh, n) w := by
                    rcases run_bounds (P := P) (w := w) (isSlice := false) (len := n) (mx := none) (mx' := none) hlo hhi (.inl ⟨rfl, rfl⟩) rfl (Nat.le_refl n) h1 h2 h3 with ⟨e, hr⟩ | ⟨e, _⟩
                    · exact hr
                    · cases e
                  simp only [Instr.sliceAt, Sem.run_bind, EO.under hd, hdesc, Result.andThen_ok, Instr.sureAddr, hrun, EO.size hsz, Sem.run_pure]
                  rw [← add_if]
                · cases hx
              · cases hx
            · cases hx
          · cases e
      · cases hx
    · cases hx
  · cases hx
end
end Go.Abs
