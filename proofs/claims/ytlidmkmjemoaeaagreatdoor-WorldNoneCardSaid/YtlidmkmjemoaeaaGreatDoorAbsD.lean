/- The abstract machine and the machine: when a value, a frame and a memory stand for others; the laws of the tree; no conditions. -/
import Derived.Test.YtlidmkmjemoaeaaGreatDoorAbsC
import Derived.Below
import Derived.AtR
set_option linter.unusedSectionVars false
namespace Go.Abs

/-! ### the tree -/
theorem PT.get1Lf {α : Type} (k : Nat) : (PT.lf : PT α).get1 k = none := rfl
theorem PT.get1Nd {α : Type} (l : PT α) (v : Option α) (r : PT α) (k : Nat) : (PT.nd l v r).get1 k = PT.getS v l.get1 r.get1 k := rfl

theorem PT.getS_eq {α : Type} (v : Option α) (gl gr : Nat → Option α) (k : Nat) :
    PT.getS v gl gr k = if k / 2 = 0 then v else if k % 2 = 0 then gl (k / 2) else gr (k / 2) := by
  unfold PT.getS
  show @Nat.casesOn (fun _ => Option α) (k / 2) v (fun _ => @Nat.casesOn (fun _ => Option α) (k % 2) (gl (k / 2)) fun _ => gr (k / 2)) = _
  cases h : k / 2 with
  | zero => exact (if_pos rfl).symm
  | succ n =>
    rw [if_neg (by omega)]
    cases h' : k % 2 with
    | zero => exact (if_pos rfl).symm
    | succ m => exact (if_neg (by omega)).symm

theorem PT.upd_zero {α : Type} (o : Option α) (t : PT α) (k : Nat) : PT.upd o 0 t k = t := rfl
theorem PT.upd_lf {α : Type} (o : Option α) (n : Nat) (k : Nat) : PT.upd o (n + 1) .lf k = PT.updS (PT.upd o n) o .lf none .lf k := rfl
theorem PT.upd_nd {α : Type} (o : Option α) (n : Nat) (l : PT α) (v : Option α) (r : PT α) (k : Nat) : PT.upd o (n + 1) (.nd l v r) k = PT.updS (PT.upd o n) o l v r k := rfl

theorem PT.updS_eq {α : Type} (ih : PT α → Nat → PT α) (o : Option α) (l : PT α) (v : Option α) (r : PT α) (k : Nat) :
    PT.updS ih o l v r k = if k / 2 = 0 then .nd l o r else if k % 2 = 0 then .nd (ih l (k / 2)) v r else .nd l v (ih r (k / 2)) := by
  unfold PT.updS
  show @Nat.casesOn (fun _ => PT α) (k / 2) (PT.nd l o r) (fun _ => @Nat.casesOn (fun _ => PT α) (k % 2) (PT.nd (ih l (k / 2)) v r) fun _ => PT.nd l v (ih r (k / 2))) = _
  cases h : k / 2 with
  | zero => exact (if_pos rfl).symm
  | succ n =>
    rw [if_neg (by omega)]
    cases h' : k % 2 with
    | zero => exact (if_pos rfl).symm
    | succ m => exact (if_neg (by omega)).symm

theorem PT.get1UpdS {α : Type} (o : Option α) (n : Nat) (ihn : ∀ (t : PT α) (k j : Nat), 1 ≤ k → 1 ≤ j → k < 2 ^ n → (PT.upd o n t k).get1 j = if j = k then o else t.get1 j)
    (l : PT α) (v : Option α) (r : PT α) (k j : Nat) (hk : 1 ≤ k) (hj : 1 ≤ j) (h : k < 2 ^ (n + 1)) :
    (PT.updS (PT.upd o n) o l v r k).get1 j = if j = k then o else PT.getS v l.get1 r.get1 j := by
  have h2 : k / 2 < 2 ^ n := by rw [Nat.pow_succ] at h; omega
  rw [PT.updS_eq]
  by_cases c0 : k / 2 = 0
  · simp only [c0, if_true, PT.get1Nd, PT.getS_eq]
    by_cases e : j = k
    · subst e; simp [c0]
    · have : j / 2 ≠ 0 := by omega
      simp [e, this]
  · by_cases c1 : k % 2 = 0
    · simp only [c0, c1, if_true, if_false, PT.get1Nd, PT.getS_eq]
      by_cases d0 : j / 2 = 0
      · have : j ≠ k := by intro e; subst e; exact c0 d0
        simp [d0, this]
      · by_cases d1 : j % 2 = 0
        · simp only [d0, d1, if_true, if_false]
          rw [ihn l (k / 2) (j / 2) (by omega) (by omega) h2]
          by_cases e : j = k
          · simp [e]
          · have : j / 2 ≠ k / 2 := by omega
            simp [e, this]
        · have : j ≠ k := by intro e; subst e; exact d1 c1
          simp [d0, d1, this]
    · simp only [c0, c1, if_false, PT.get1Nd, PT.getS_eq]
      by_cases d0 : j / 2 = 0
      · have : j ≠ k := by intro e; subst e; exact c0 d0
        simp [d0, this]
      · by_cases d1 : j % 2 = 0
        · have : j ≠ k := by intro e; subst e; exact c1 d1
          simp [d0, d1, this]
        · simp only [d0, d1, if_false]
          rw [ihn r (k / 2) (j / 2) (by omega) (by omega) h2]
          by_cases e : j = k
          · simp [e]
          · have : j / 2 ≠ k / 2 := by omega
            simp [e, this]

theorem PT.get1Upd {α : Type} (o : Option α) : ∀ (n : Nat) (t : PT α) (k j : Nat), 1 ≤ k → 1 ≤ j → k < 2 ^ n → (PT.upd o n t k).get1 j = if j = k then o else t.get1 j
  | 0, t, k, j, hk, hj, h => by simp at h; omega
  | n + 1, t, k, j, hk, hj, h => by
    cases t with
    | lf =>
      rw [PT.upd_lf, PT.get1UpdS o n (PT.get1Upd o n) _ _ _ k j hk hj h]
      simp [PT.getS_eq, PT.get1Lf]
    | nd l v r =>
      rw [PT.upd_nd, PT.get1UpdS o n (PT.get1Upd o n) _ _ _ k j hk hj h, PT.get1Nd]

theorem PT.get_set {α : Type} (t : PT α) (k j : Nat) (v : α) : (t.set k v).get j = if j = k then some v else t.get j := by
  have := PT.get1Upd (some v) (k + 1) t (k + 1) (j + 1) (by omega) (by omega) (Nat.lt_two_pow_self)
  simp only [Nat.add_right_cancel_iff] at this
  exact this
theorem PT.get_del {α : Type} (t : PT α) (k j : Nat) : (t.del k).get j = if j = k then none else t.get j := by
  have := PT.get1Upd none (k + 1) t (k + 1) (j + 1) (by omega) (by omega) (Nat.lt_two_pow_self)
  simp only [Nat.add_right_cancel_iff] at this
  exact this
theorem PT.get_lf {α : Type} (k : Nat) : (PT.lf : PT α).get k = none := rfl

theorem PT.get_ofList {α : Type} : ∀ (l : List α) (t : PT α) (i j : Nat), (PT.ofList t i l).get j = if i ≤ j ∧ j < i + l.length then l[j - i]? else t.get j
  | [], t, i, j => by
    rw [if_neg (by intro ⟨a, b⟩; simp at b; omega)]; rfl
  | x :: l, t, i, j => by
    rw [PT.ofList, PT.get_ofList l, PT.get_set]
    by_cases h : i + 1 ≤ j ∧ j < i + 1 + l.length
    · have h' : i ≤ j ∧ j < i + (x :: l).length := by simp; omega
      rw [if_pos h, if_pos h']
      have : j - i = (j - (i + 1)) + 1 := by omega
      rw [this]; simp
    · rw [if_neg h]
      by_cases e : j = i
      · subst e
        rw [if_pos rfl, if_pos ⟨Nat.le_refl _, by simp⟩]; simp
      · rw [if_neg e, if_neg (by simp; omega)]

/-! ### the frame -/
theorem TL.get_nil (t : Nat) : TL.nil.get t = none := rfl
theorem TL.get_cons (k : Nat) (v : AV) (r : TL) (t : Nat) : (TL.cons k v r).get t = if k = t then some v else r.get t := by
  show @Bool.casesOn (fun _ => Option AV) (Nat.beq k t) (r.get t) (some v) = _
  by_cases h : k = t
  · subst h; simp
  · have : Nat.beq k t = false := by rw [← Bool.not_eq_true, Nat.beq_eq]; exact h
    rw [this]; simp [h]
theorem Fr.get_mk (nb : Nat) (tm : TL) (lo : PT AV) (t : Nat) : (Fr.mk nb tm lo).get t = if nb ≤ t then tm.get t else lo.get t := by
  show @Bool.casesOn (fun _ => Option AV) (Nat.ble nb t) (lo.get t) (tm.get t) = _
  by_cases h : nb ≤ t
  · have : Nat.ble nb t = true := by simpa using h
    rw [this]; simp [h]
  · have : Nat.ble nb t = false := by
      rw [← Bool.not_eq_true]; simpa using h
    rw [this]; simp [h]
theorem Fr.get_set (f : Fr) (t u : Nat) (v : AV) : (f.set t v).get u = if u = t then some v else f.get u := by
  cases f with
  | mk nb tm lo =>
    have hs : (Fr.mk nb tm lo).set t v = if nb ≤ t then .mk nb (.cons t v tm) lo else .mk nb tm (lo.set t v) := by
      show @Bool.casesOn (fun _ => Fr) (Nat.ble nb t) (Fr.mk nb tm (lo.set t v)) (Fr.mk nb (.cons t v tm) lo) = _
      by_cases h : nb ≤ t
      · have : Nat.ble nb t = true := by simpa using h
        rw [this]; simp [h]
      · have : Nat.ble nb t = false := by rw [← Bool.not_eq_true]; simpa using h
        rw [this]; simp [h]
    rw [hs]
    by_cases h : nb ≤ t
    · rw [if_pos h, Fr.get_mk, TL.get_cons, Fr.get_mk]
      by_cases e : u = t
      · subst e; simp [h]
      · have : ¬ t = u := fun x => e x.symm
        simp [e, this]
    · rw [if_neg h, Fr.get_mk, PT.get_set, Fr.get_mk]
      by_cases e : u = t
      · subst e; simp [h]
      · simp [e]
theorem Fr.get_drop (f : Fr) (t : Nat) (v : AV) (h : f.drop.get t = some v) : f.get t = some v := by
  cases f with
  | mk nb tm lo =>
    have hd : (Fr.mk nb tm lo).drop = .mk nb .nil lo := rfl
    rw [hd, Fr.get_mk, TL.get_nil] at h
    rw [Fr.get_mk]
    by_cases e : nb ≤ t
    · simp [e] at h
    · simpa [e] using h

/-! ### what stands for what -/
structure Loc where
  blk : Nat
  base : Nat
  room : Nat
  esz : Nat

abbrev Phi := Nat → Option Loc

def Phi.le (φ ψ : Phi) : Prop := ∀ b p, φ b = some p → ψ b = some p

/-- What values stand for those that nothing looks into: each one a cell. -/
class Opq where
  val : Nat → Value
  one : ∀ i, (val i).cells = #[val i]
  cell : ∀ i, (val i).oneCell' = true
variable [Opq]

inductive FnR (φ : Phi) : Fn → Fn → Prop where
  | same (f : Fn) (h : ∀ l, f ≠ .yield l) : FnR φ f f
  | yield (l : Nat) (p : Loc) (h : φ l = some p) : FnR φ (.yield l) (.yield p.blk)

mutual
inductive VR (φ : Phi) : AV → Value → Prop where
  | int (k : IntKind) (n : Int) : VR φ (.int k n) (.int k n)
  | bool (b : Bool) : VR φ (.bool b) (.bool b)
  | str (s : ByteArray) (l : List UInt8) (h : s.data.toList = l) : VR φ (.str l) (.string s)
  | nilPtr : VR φ .nilPtr (.pointer none)
  | ptr (b o : Nat) (p : Loc) (h : φ b = some p) : VR φ (.ptr b o) (.pointer (some ⟨p.blk, p.base + o, none⟩))
  | nilSlice : VR φ .nilSlice (.slice none 0 0)
  | sliceX (b o n c : Nat) (p : Loc) (h : φ b = some p) : VR φ (.slice b o n (some c)) (.slice (some ⟨p.blk, p.base + o, none⟩) n c)
  | sliceU (b o n c : Nat) (p : Loc) (h : φ b = some p) (hn : n ≤ c) (hr : o + c * p.esz ≤ p.room) : VR φ (.slice b o n none) (.slice (some ⟨p.blk, p.base + o, none⟩) n c)
  | slice0 (b o c : Nat) (p : Loc) (h : φ b = some p) (ho : p.base ≤ o) (hr : o + c * p.esz ≤ p.base + p.room) : VR φ (.slice0 b) (.slice (some ⟨p.blk, o, none⟩) 0 c)
  | nilMap : VR φ .nilMap (.map none)
  | map (r : Nat) (p : Loc) (h : φ r = some p) (h0 : p.base = 0) : VR φ (.map r) (.map (some p.blk))
  | func (f g : Fn) (a c : List AV) (a' c' : Array Value) (hf : FnR φ f g) (ha : VRs φ a a'.toList) (hc : VRs φ c c'.toList) : VR φ (.func f a c) (.func g a' c')
  | nilFunc : VR φ .nilFunc .nilFunc
  | iface (t : TypeId) (v : AV) (x : Value) (h : VR φ v x) : VR φ (.iface t v) (.iface t x)
  | nilIface : VR φ .nilIface .nilIface
  | agg (l : List AV) (a : Array Value) (h : VRs φ l a.toList) : VR φ (.agg l) (.agg a)
  | tuple (l : List AV) (a : Array Value) (h : VRs φ l a.toList) : VR φ (.tuple l) (.tuple a)
  | opq (i : Nat) : VR φ (.opq i) (Opq.val i)
inductive VRs (φ : Phi) : List AV → List Value → Prop where
  | nil : VRs φ [] []
  | cons (v : AV) (x : Value) (l : List AV) (m : List Value) (h : VR φ v x) (hl : VRs φ l m) : VRs φ (v :: l) (x :: m)
end

theorem FnR.mono {φ ψ : Phi} (h : φ.le ψ) {f g : Fn} (r : FnR φ f g) : FnR ψ f g := by
  cases r with
  | same f hf => exact .same f hf
  | yield l p hp => exact .yield l p (h _ _ hp)

mutual
theorem VR.mono {φ ψ : Phi} (h : φ.le ψ) : ∀ {v : AV} {x : Value}, VR φ v x → VR ψ v x
  | _, _, .int k n => .int k n
  | _, _, .bool b => .bool b
  | _, _, .str s l e => .str s l e
  | _, _, .nilPtr => .nilPtr
  | _, _, .ptr b o p e => .ptr b o p (h _ _ e)
  | _, _, .nilSlice => .nilSlice
  | _, _, .sliceX b o n c p e => .sliceX b o n c p (h _ _ e)
  | _, _, .sliceU b o n c p e hn hr => .sliceU b o n c p (h _ _ e) hn hr
  | _, _, .slice0 b o c p e ho hr => .slice0 b o c p (h _ _ e) ho hr
  | _, _, .nilMap => .nilMap
  | _, _, .map r p e h0 => .map r p (h _ _ e) h0
  | _, _, .func f g a c a' c' hf ha hc => .func f g a c a' c' (hf.mono h) (ha.mono h) (hc.mono h)
  | _, _, .nilFunc => .nilFunc
  | _, _, .iface t v x r => .iface t v x (r.mono h)
  | _, _, .nilIface => .nilIface
  | _, _, .agg l a r => .agg l a (r.mono h)
  | _, _, .tuple l a r => .tuple l a (r.mono h)
  | _, _, .opq i => .opq i
theorem VRs.mono {φ ψ : Phi} (h : φ.le ψ) : ∀ {l : List AV} {m : List Value}, VRs φ l m → VRs ψ l m
  | _, _, .nil => .nil
  | _, _, .cons v x l m r rl => .cons v x l m (r.mono h) (rl.mono h)
end

theorem VRs.length {φ : Phi} : ∀ {l : List AV} {m : List Value}, VRs φ l m → l.length = m.length
  | _, _, .nil => rfl
  | _, _, .cons _ _ _ _ _ rl => by simp [rl.length]
theorem VRs.append {φ : Phi} : ∀ {l : List AV} {m : List Value} {l' : List AV} {m' : List Value}, VRs φ l m → VRs φ l' m' → VRs φ (l ++ l') (m ++ m')
  | _, _, _, _, .nil, h => h
  | _, _, _, _, .cons v x l m r rl, h => .cons v x _ _ r (rl.append h)
theorem VRs.get {φ : Phi} : ∀ {l : List AV} {m : List Value}, VRs φ l m → ∀ (i : Nat) (v : AV), l[i]? = some v → ∃ x, m[i]? = some x ∧ VR φ v x
  | _, _, .nil, i, v, h => by simp at h
  | _, _, .cons v x l m r rl, 0, u, h => by simp at h; subst h; exact ⟨x, by simp, r⟩
  | _, _, .cons v x l m r rl, i + 1, u, h => by simpa using rl.get i u (by simpa using h)
theorem VRs.get' {φ : Phi} {l : List AV} {m : List Value} (h : VRs φ l m) (i : Nat) (hi : i < l.length) : ∃ v x, l[i]? = some v ∧ m[i]? = some x ∧ VR φ v x := by
  obtain ⟨x, hx, hr⟩ := h.get i l[i] (by simp [hi])
  exact ⟨l[i], x, by simp [hi], hx, hr⟩

/-- deferred calls -/
inductive DR (φ : Phi) : ADef → Deferred → Prop where
  | mk (f g : Fn) (c a : List AV) (c' a' : Array Value) (hf : FnR φ f g) (hc : VRs φ c c'.toList) (ha : VRs φ a a'.toList) : DR φ ⟨f, c, a⟩ ⟨.fn g c', a'⟩
theorem DR.mono {φ ψ : Phi} (h : φ.le ψ) {d : ADef} {e : Deferred} (r : DR φ d e) : DR ψ d e := by
  cases r with
  | mk f g c a c' a' hf hc ha => exact .mk f g c a c' a' (hf.mono h) (hc.mono h) (ha.mono h)
inductive DsR (φ : Phi) : List ADef → List Deferred → Prop where
  | nil : DsR φ [] []
  | cons (d : ADef) (e : Deferred) (l : List ADef) (m : List Deferred) (h : DR φ d e) (hl : DsR φ l m) : DsR φ (d :: l) (e :: m)
theorem DsR.mono {φ ψ : Phi} (h : φ.le ψ) : ∀ {l : List ADef} {m : List Deferred}, DsR φ l m → DsR ψ l m
  | _, _, .nil => .nil
  | _, _, .cons d e l m r rl => .cons d e l m (r.mono h) (rl.mono h)
inductive AdR (φ : Phi) : List AD → List Deferred → Prop where
  | nil : AdR φ [] []
  | fn (d : ADef) (e : Deferred) (l : List AD) (m : List Deferred) (h : DR φ d e) (hl : AdR φ l m) : AdR φ (.fn d :: l) (e :: m)
  | mark (r : Nat) (p : Loc) (l : List AD) (m : List Deferred) (h : φ r = some p) (hl : AdR φ l m) : AdR φ (.mark r :: l) ({ target := .collected p.blk, args := #[] } :: m)
theorem AdR.mono {φ ψ : Phi} (h : φ.le ψ) : ∀ {l : List AD} {m : List Deferred}, AdR φ l m → AdR ψ l m
  | _, _, .nil => .nil
  | _, _, .fn d e l m r rl => .fn d e l m (r.mono h) (rl.mono h)
  | _, _, .mark r p l m e rl => .mark r p l m (h _ _ e) (rl.mono h)

/-- entries of a map -/
inductive EsR (φ : Phi) : List (AV × AV × Nat) → List MapEntry → Prop where
  | nil : EsR φ [] []
  | cons (k v : AV) (b : Nat) (x y : Value) (l : List (AV × AV × Nat)) (m : List MapEntry) (hk : VR φ k x) (hv : VR φ v y) (hl : EsR φ l m) :
      EsR φ ((k, v, b) :: l) (⟨x, y, b⟩ :: m)
theorem EsR.mono {φ ψ : Phi} (h : φ.le ψ) : ∀ {l : List (AV × AV × Nat)} {m : List MapEntry}, EsR φ l m → EsR ψ l m
  | _, _, .nil => .nil
  | _, _, .cons k v b x y l m hk hv hl => .cons k v b x y l m (hk.mono h) (hv.mono h) (hl.mono h)

/-- A frame: what is known of its slots. -/
def FrR (φ : Phi) (nt : Nat) (f : Fr) (a : Array Value) : Prop := a.size = nt ∧ ∀ t v, f.get t = some v → VR φ v (a.getD t undef)
theorem FrR.mono {φ ψ : Phi} (h : φ.le ψ) {nt : Nat} {f : Fr} {a : Array Value} (r : FrR φ nt f a) : FrR ψ nt f a := ⟨r.1, fun t v e => (r.2 t v e).mono h⟩

/-- An object and what lies at its place. 'N': how many slots a function's frame has. -/
def ObjR (N : FuncId → Nat) (φ : Phi) (w : World) (p : Loc) : AObj → Prop
  | .cells t n e st ez => p.esz = ez ∧ ∃ c fz, w.heap[p.blk]? = some (.cells c e fz) ∧ p.base + p.room ≤ c.size ∧ n ≤ p.room ∧
      (∀ i, p.base ≤ i → i < p.base + p.room → ¬ (fz.1 ≤ i ∧ i < fz.2)) ∧ (st = false → fz = (0, 0)) ∧
      ∀ i v, t.get i = some v → i < n ∧ v.flat = true ∧ ∃ x, c[p.base + i]? = some x ∧ VR φ v x
  | .map es clock => p.base = 0 ∧ ∃ es', w.heap[p.blk]? = some (.map es' clock) ∧ EsR φ es es'.toList
  | .mapIter m since seen stepped => p.base = 0 ∧ ∃ m', w.heap[p.blk]? = some (.mapIter m' since seen.toArray stepped) ∧ (match m with
      | none => m' = none
      | some r => ∃ q, φ r = some q ∧ m' = some q.blk)
  | .strIter s pos => p.base = 0 ∧ ∃ s', w.heap[p.blk]? = some (.stringIter s' pos) ∧ s'.data.toList = s
  | .loop st pending fn tmps params assign body d => p.base = 0 ∧ ∃ tmps' q, w.heap[p.blk]? = some (.loop ⟨st, pending, fn, tmps', params, assign, body, q.blk⟩) ∧ FrR φ (N fn) tmps tmps' ∧ φ d = some q
  | .deferred ds => p.base = 0 ∧ ∃ ds', w.heap[p.blk]? = some (.deferred ds') ∧ (match ds with
      | none => ds' = none
      | some l => ∃ l', ds' = some l' ∧ DsR φ l l')

/-- A memory and another. -/
structure R (N : FuncId → Nat) (φ : Phi) (h : AHeap) (w : World) : Prop where
  dom : ∀ b p, φ b = some p → b < h.next ∧ p.blk < w.heap.size
  obj : ∀ b p o, φ b = some p → h.get b = some o → ObjR N φ w p o
  inj : ∀ b b' p p' o o', φ b = some p → φ b' = some p' → h.get b = some o → h.get b' = some o' → p.blk = p'.blk → b = b'
  fresh : ∀ b, h.next ≤ b → h.get b = none

/-- One step of both, or many. -/
structure Sim (N : FuncId → Nat) (φ : Phi) (h : AHeap) (w : World) (φ' : Phi) (h' : AHeap) (w' : World) : Prop where
  le : φ.le φ'
  rel : R N φ' h' w'
  new : ∀ b p, φ' b = some p → φ b = some p ∨ (h.next ≤ b ∧ (w.heap.size ≤ p.blk ∨ ∃ b₀ p₀ o₀, φ b₀ = some p₀ ∧ h.get b₀ = some o₀ ∧ p₀.blk = p.blk))
  dom : ∀ b p, φ b = some p → b < h.next
  live : ∀ b, b < h.next → h.get b = none → h'.get b = none
  next : h.next ≤ h'.next
  hframe : ∀ b, b < h.next → φ b = none → h'.get b = h.get b
  size : w.heap.size ≤ w'.heap.size
  wframe : ∀ k, k < w.heap.size → (∀ b p o, φ b = some p → h.get b = some o → p.blk ≠ k) → w'.heap[k]? = w.heap[k]?
  os : w'.os = w.os
  tape : w'.tape = w.tape
  output : w'.output = w.output

theorem Sim.refl {N : FuncId → Nat} {φ : Phi} {h : AHeap} {w : World} (r : R N φ h w) : Sim N φ h w φ h w :=
  ⟨fun _ _ e => e, r, fun _ _ e => .inl e, fun b p e => (r.dom b p e).1, fun _ _ e => e, Nat.le_refl _, fun _ _ _ => rfl, Nat.le_refl _, fun _ _ _ => rfl, rfl, rfl, rfl⟩

theorem Sim.trans {N : FuncId → Nat} {φ₁ φ₂ φ₃ : Phi} {h₁ h₂ h₃ : AHeap} {w₁ w₂ w₃ : World} (a : Sim N φ₁ h₁ w₁ φ₂ h₂ w₂) (b : Sim N φ₂ h₂ w₂ φ₃ h₃ w₃) :
    Sim N φ₁ h₁ w₁ φ₃ h₃ w₃ where
  le := fun x p e => b.le x p (a.le x p e)
  rel := b.rel
  new := fun x p e => by
    rcases b.new x p e with e2 | ⟨hn, h2⟩
    · exact a.new x p e2
    · refine .inr ⟨Nat.le_trans a.next hn, ?_⟩
      rcases h2 with h2 | ⟨b₀, p₀, o₀, e0, g0, ep⟩
      · exact .inl (Nat.le_trans a.size h2)
      · rcases a.new b₀ p₀ e0 with e1 | ⟨_, h1 | ⟨b₁, p₁, o₁, e1, g1, ep1⟩⟩
        · cases g : h₁.get b₀ with
          | none => rw [a.live b₀ (a.dom _ _ e1) g] at g0; cases g0
          | some o => exact .inr ⟨b₀, p₀, o, e1, g, ep⟩
        · exact .inl (ep ▸ h1)
        · exact .inr ⟨b₁, p₁, o₁, e1, g1, ep1.trans ep⟩
  dom := a.dom
  live := fun x hx g => b.live x (Nat.lt_of_lt_of_le hx a.next) (a.live x hx g)
  next := Nat.le_trans a.next b.next
  hframe := fun x hx e => by
    rw [b.hframe x (Nat.lt_of_lt_of_le hx a.next) ?_, a.hframe x hx e]
    cases e2 : φ₂ x with
    | none => rfl
    | some p =>
      rcases a.new x p e2 with e3 | ⟨h3, _⟩
      · rw [e] at e3; cases e3
      · omega
  size := Nat.le_trans a.size b.size
  wframe := fun k hk e => by
    rw [b.wframe k (Nat.lt_of_lt_of_le hk a.size) ?_, a.wframe k hk e]
    intro x p o e2 g2 ek
    rcases a.new x p e2 with e3 | ⟨_, h3 | ⟨b₀, p₀, o₀, e0, g0, ep⟩⟩
    · cases g : h₁.get x with
      | none => rw [a.live x (a.dom _ _ e3) g] at g2; cases g2
      | some o => exact e x p o e3 g ek
    · omega
    · exact e b₀ p₀ o₀ e0 g0 (ep.trans ek)
  os := b.os.trans a.os
  tape := b.tape.trans a.tape
  output := b.output.trans a.output

/-- Only the draws are counted on. -/
theorem ObjR.of_heap {N : FuncId → Nat} {φ : Phi} {w w' : World} {p : Loc} {o : AObj} (h : w'.heap[p.blk]? = w.heap[p.blk]?) (r : ObjR N φ w p o) : ObjR N φ w' p o := by
  cases o <;> simpa only [ObjR, h] using r

theorem ObjR.mono {N : FuncId → Nat} {φ ψ : Phi} (hle : φ.le ψ) {w : World} {p : Loc} {o : AObj} (r : ObjR N φ w p o) : ObjR N ψ w p o := by
  cases o with
  | cells t n e st ez =>
    obtain ⟨h0, c, fz, h1, h2, h3, h4, h5, h6⟩ := r
    exact ⟨h0, c, fz, h1, h2, h3, h4, h5, fun i v e => let ⟨a, b, x, hx, hr⟩ := h6 i v e; ⟨a, b, x, hx, hr.mono hle⟩⟩
  | map es clock => obtain ⟨h0, es', h1, h2⟩ := r; exact ⟨h0, es', h1, h2.mono hle⟩
  | mapIter m since seen stepped =>
    obtain ⟨h0, m', h1, h2⟩ := r
    refine ⟨h0, m', h1, ?_⟩
    cases m with
    | none => exact h2
    | some r => obtain ⟨q, hq, e⟩ := h2; exact ⟨q, hle _ _ hq, e⟩
  | strIter s pos => exact r
  | loop st pending fn tmps params assign body d => obtain ⟨h0, t', q, h1, h2, h3⟩ := r; exact ⟨h0, t', q, h1, h2.mono hle, hle _ _ h3⟩
  | deferred ds =>
    obtain ⟨h0, ds', h1, h2⟩ := r
    refine ⟨h0, ds', h1, ?_⟩
    cases ds with
    | none => exact h2
    | some l => obtain ⟨l', e, hl⟩ := h2; exact ⟨l', e, hl.mono hle⟩

theorem R.of_heap {N : FuncId → Nat} {φ : Phi} {h : AHeap} {w w' : World} (e : w'.heap = w.heap) (r : R N φ h w) : R N φ h w' :=
  ⟨fun b p hb => e ▸ r.dom b p hb, fun b p o hb ho => (r.obj b p o hb ho).of_heap (by rw [e]), r.inj, r.fresh⟩

end Go.Abs
