/- The abstract machine: slices of known capacity; a function that knows its slice's capacity, as one that does not; no conditions. -/
import Derived.Test.YtlidmkmjemoaeaaGreatDoorAbsJ
set_option linter.unusedVariables false
set_option linter.unusedSimpArgs false
set_option linter.unusedSectionVars false
namespace Go.Abs
open Go
section
variable {E : Env} {h : AHeap} {t : TypeId} {b o len cap z m n l : Nat} {lo hi mx : Option AV} {k : IntKind}
theorem slSl (hk : slOf E t = some z) : sliceA E h t (.slice b o len (some cap)) lo hi mx = sliceX b o z len cap lo hi mx := by
  unfold slOf at hk
  split at hk
  · rename_i i hi'
    split at hk
    · rename_i e hd
      simp only [sliceA, hi', hd, sliceV, hk]
    · cases hk
  · cases hk
theorem bnd_none {d top : Nat} : bnd none d top = some d := rfl
theorem bnd_nat {d top : Nat} (hm : m ≤ top) : bnd (some (.int k (m : Int))) d top = some m := by
  have : Nat.ble m top = true := by simpa using hm
  show (match Nat.ble m top with
    | true => some m
    | false => none) = some m
  rw [this]
theorem cutX_eq {h : Nat} : cutX b o z l h m = some (.val (.slice b (if m = l then o else o + l * z) (h - l) (some (m - l)))) := by
  unfold cutX
  simp only [fNat_eq]
  by_cases e : m = l
  · subst e; simp
  · have : Nat.beq m l = false := by rw [← Bool.not_eq_true]; simpa using e
    simp [this, e]
/-- s[lo:hi] -/
theorem sliceX_two {p q : Nat} (h1 : q ≤ cap) (h2 : p ≤ q) : sliceX b o z len cap (some (.int k (p : Int))) (some (.int k (q : Int))) none = some (.val (.slice b (if cap = p then o else o + p * z) (q - p) (some (cap - p)))) := by
  simp only [sliceX, Option.isSome_none, Bool.false_and, bnd_none, bnd_nat h1, bnd_nat h2, cutX_eq]
theorem sliceX_lo {p : Nat} (h1 : len ≤ cap) (h2 : p ≤ len) : sliceX b o z len cap (some (.int k (p : Int))) none none = some (.val (.slice b (if cap = p then o else o + p * z) (len - p) (some (cap - p)))) := by
  have : Nat.ble len cap = true := by simpa using h1
  simp only [sliceX, Option.isSome_none, Bool.false_and, bnd_none, bnd_nat h2, cutX_eq]
theorem sliceX_hi {q : Nat} (h1 : q ≤ cap) : sliceX b o z len cap none (some (.int k (q : Int))) none = some (.val (.slice b (if cap = 0 then o else o + 0 * z) (q - 0) (some (cap - 0)))) := by
  simp only [sliceX, Option.isSome_none, Bool.false_and, bnd_none, bnd_nat h1, cutX_eq]
theorem sliceX_three {p q r : Nat} (h0 : r ≤ cap) (h1 : q ≤ r) (h2 : p ≤ q) : sliceX b o z len cap (some (.int k (p : Int))) (some (.int k (q : Int))) (some (.int k (r : Int))) = some (.val (.slice b (if r = p then o else o + p * z) (q - p) (some (r - p)))) := by
  simp only [sliceX, Option.isSome_some, Option.isNone_some, Bool.and_false, bnd_nat h0, bnd_nat h1, bnd_nat h2, cutX_eq]

/-- append onto a slice of known capacity, where there is room -/
noncomputable def apRoom (h : AHeap) (b o z len c n : Nat) (old new : Option (List AV)) : Option OpR := match old, new with
  | some _, some l => match h.store b (o + len * z) l with
    | some h' => some (.mem (.slice b o (len + n) (some c)) h')
    | none => none
  | _, _ => none
noncomputable def apOk (E : Env) (t : TypeId) (z : Nat) : Bool := match elemA E t with
  | some (_, y) => Nat.beq y.size z && (match y.zero with
    | some w => Nat.ble 1 y.size && Nat.ble y.bytes 10000 && Nat.beq w.length y.size && allFlat w
    | none => false) && (match E.ti.get t with
      | some i => match i.desc with
        | .int _ => false
        | _ => true
      | none => false)
  | none => false
theorem apRoom_eq {b' o' c c' : Nat} (hk : apOk E t z = true) (h1 : len ≤ 1000000) (h2 : n ≤ 1000000) (h3 : len + n ≤ c) :
    builtA E h .append #[t, t] [.slice b o len (some c), .slice b' o' n (some c')] = apRoom h b o z len c n (h.load b o (len * z)) (h.load b' o' (n * z)) := by
  unfold apOk at hk
  split at hk
  · rename_i e y he
    simp only [Bool.and_eq_true] at hk
    obtain ⟨⟨hz, hk⟩, ht⟩ := hk
    obtain rfl : y.size = z := Nat.eq_of_beq_eq_true hz
    split at hk
    · rename_i w hw
      simp only [Bool.and_eq_true] at hk
      obtain ⟨⟨⟨k1, k2⟩, k3⟩, k4⟩ := hk
      split at ht
      · rename_i i hi'
        have g1 : Nat.ble len 1000000 = true := by simpa using h1
        have g2 : Nat.ble n 1000000 = true := by simpa using h2
        have g3 : Nat.ble (len + n) c = true := by simpa using h3
        have e1 : builtA E h .append #[t, t] [.slice b o len (some c), .slice b' o' n (some c')] = appendA E h t (.slice b o len (some c)) (.slice b' o' n (some c')) := by
          simp only [builtA, builtinA, hi']
          split at ht
          · cases ht
          · rename_i hx
            split
            · rename_i k hk2; exact absurd hk2 (hx k)
            · rfl
        rw [e1]
        simp only [appendA, he, lenA, firstA, hw, apRoom]
        cases hnew : h.load b' o' (n * y.size) with
        | none => cases h.load b o (len * y.size) <;> rfl
        | some new =>
          simp only [k1, k2, k3, k4, g2, Bool.and_self]
          simp only [appendV, g1]
          cases hold : h.load b o (len * y.size) with
          | none => rfl
          | some old =>
            simp only [appendX, g3]
            cases h.store b (o + len * y.size) new <;> rfl
      · cases ht
    · cases hk
  · cases hk
noncomputable def clRow (h : AHeap) (b o : Nat) (l : List AV) : Option OpR := match h.store b o l with
  | some h' => some (.mem (.tuple []) h')
  | none => none
theorem clear_eq {w : List AV} {c : Option Nat} (hk : (elemA E t).map (fun p => (p.2.zero, (p.2.zero.map fun w => Nat.beq w.length p.2.size && Nat.ble 1 p.2.size))) = some (some w, some true)) (hn : 0 < n) :
    builtA E h .clear #[t] [.slice b o n c] = clRow h b o (zeros w n) := by
  obtain ⟨⟨e, y⟩, he, hy⟩ := ofMap hk
  simp only [Prod.mk.injEq] at hy
  obtain ⟨h1, h2⟩ := hy
  rw [h1] at h2
  simp only [Option.map_some, Option.some.injEq, Bool.and_eq_true] at h2
  obtain ⟨m, rfl⟩ : ∃ m, n = m + 1 := ⟨n - 1, by omega⟩
  simp only [builtA, builtinA, clearA, he, h1, h2.1, h2.2, clRow]
  cases h.store b o (zeros w (m + 1)) <;> rfl
end

/-! ### what is known of a function that knows its slice's capacity -/
section
variable [Opq]
/-- 'slices.Delete' of a slice of elements of one cell, whose zero is w -/
noncomputable def delG (w : AV) (xs : List AV) (h : AHeap) : Option (AV × AHeap) := match xs with
  | [.slice b o n none, .int .i64 (.ofNat i), .int .i64 (.ofNat j)] =>
    match Nat.ble (i + 1) j && Nat.ble j n && Nat.ble n 1000000, h.load b o n, h.load b o i, h.load b (o + j) (n - j) with
    | true, some _, some _, some l => match h.store b (o + i) l with
      | some h₁ => match h₁.store b (o + (i + (n - j))) (zeros [w] (j - i)) with
        | some h₂ => some (.slice b o (i + (n - j)) none, h₂)
        | none => none
      | none => none
    | _, _, _, _ => none
  | _ => none
noncomputable def knownDel (f : FuncId) (w : AV) : FuncId → Option (List AV → AHeap → Option (AV × AHeap)) := fun x => if x = f then some (delG w) else none

/-- It does so, whatever the capacity. -/
def DelDoes (X : Mach) (f : FuncId) (w : AV) : Prop :=
  ∀ (h h₁ h₂ : AHeap) (b o n c i j : Nat) (l old all : List AV), i < j → j ≤ n → n ≤ 1000000 → n ≤ c → h.load b o n = some all → h.load b o i = some old → h.load b (o + j) (n - j) = some l → h.store b (o + i) l = some h₁ →
    h₁.store b (o + (i + (n - j))) (zeros [w] (j - i)) = some h₂ → Will X f [.slice b o n (some c), .int .i64 (i : Int), .int .i64 (j : Int)] h fun v h' => v = .slice b o (i + (n - j)) (some c) ∧ h' = h₂

theorem iok_del {P : Program} (hmix : P.follows .mixedOrders = true) (hname : namesOk P = true) {X : Mach} (hE : X.E = mkEnv P) (hI : IOk P (nOf P) X.I) {f : FuncId} {w : AV} (hd : DelDoes X f w) : IOk P (nOf P) (knownDel f w) := by
  intro x g hg φ h wd r as v h' L hx hl
  unfold knownDel at hg
  split at hg
  · rename_i e
    subst e
    cases hg
    unfold delG at hx
    split at hx
    · rename_i b o n i j
      split at hx
      · rename_i all old l hcond h1 h2 h3
        split at hx
        · rename_i h₁ h4
          split at hx
          · rename_i h₂ h5
            cases hx
            simp only [Bool.and_eq_true, Nat.ble_eq] at hcond
            generalize hz : L.toList = z at hl
            cases hl with
            | cons _ x1 _ m1 hv1 hl1 =>
              cases hv1 with
              | sliceU b o n c p hp hn hr =>
                obtain ⟨v, h', ⟨N, hN⟩, rfl, rfl⟩ := hd h h₁ _ b o n c i j l old all (by omega) (by omega) (by omega) hn h1 h2 h3 h4 h5
                have hx := hN N N (Nat.le_refl _) (Nat.le_refl _)
                unfold Mach.calls at hx
                rw [hE] at hx
                have hL : VRs φ [.slice b o n (some c), .int .i64 (i : Int), .int .i64 (j : Int)] L.toList := by
                  rw [hz]; exact .cons _ _ _ _ (.sliceX b o n c p hp) hl1
                obtain ⟨c1, c2, c3⟩ := (callsA_ok (mkEnv_ok P) hmix (nOf_ok P) (namesOk_spec hname) hI (S := N) N).fn r hx hL
                have conv : ∀ e w', Ret (nOf P) φ h wd (.slice b o (i + (n - j)) (some c)) h' e w' → Ret (nOf P) φ h wd (.slice b o (i + (n - j)) none) h' e w' := by
                  rintro e w' ⟨x, φ', rfl, hv, hs⟩
                  cases hv with
                  | sliceX =>
                    rename_i p' hp'
                    have := hs.le _ _ hp
                    rw [hp'] at this
                    cases this
                    exact ⟨_, φ', rfl, .sliceU b o _ c _ hp' (by omega) hr, hs⟩
                refine ⟨c1, fun cs => ?_, fun c cs hu => ?_⟩
                · obtain ⟨e, w', fr, hr, h2⟩ := c2 cs
                  exact ⟨e, w', fr, conv e w' hr, h2⟩
                · obtain ⟨e, u, w', fr, ⟨hu', hr⟩, h2⟩ := c3 c cs hu
                  exact ⟨e, u, w', fr, ⟨hu', conv e w' hr⟩, h2⟩
          · cases hx
        · cases hx
      · cases hx
    · cases hx
  · cases hg
end
open Go.ChangeShapes Go.WideShapes Go.ChangeAt Go.RowKit in
/-- A law over one struct of cells that looks into none of them, some functions known. -/
theorem calls_opqI {P : Program} (hmix : P.follows .mixedOrders = true) (hname : namesOk P = true) {B : FuncId → Nat} {I : FuncId → Option (List AV → AHeap → Option (AV × AHeap))} {S n : Nat} {f : FuncId} (l : List Value) (hl : ∀ v ∈ l, cellOk v = true)
    (hI : @IOk (Opq.of l hl) P (nOf P) I) (hrun : isTrue (callsA (mkEnv P) B I S n (.fn f [.agg (opqs 0 l.length)]) h0) = true) (w : World) : Calls P f #[.agg l.toArray] w fun e w' => e = .returned (.bool true) ∧ Below w.heap.size w w' :=
  @calls_true (Opq.of l hl) P hmix hname B _ hI S n f _ _ hrun (@VRs.cons (Opq.of l hl) _ _ _ _ _ (@VR.agg (Opq.of l hl) _ _ _ (opqs_VRs _ l 0 rfl)) (@VRs.nil (Opq.of l hl) _)) w
end Go.Abs
