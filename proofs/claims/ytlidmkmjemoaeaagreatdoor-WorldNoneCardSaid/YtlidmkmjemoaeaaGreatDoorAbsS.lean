/- The abstract machine: what each operation does, as equations for a walk with values that are not known; no conditions. -/
import Derived.Test.YtlidmkmjemoaeaaGreatDoorAbsW
set_option linter.unusedVariables false
set_option linter.unusedSimpArgs false
set_option linter.unusedSectionVars false
namespace Go.Abs
open Go

/-! ### memory, cell by cell -/
noncomputable def AHeap.at (h : AHeap) (b o : Nat) : Option AV := match h.get b with
  | some (.cells t _ _ _ _) => t.get o
  | _ => none
/-- A row: how many cells, of which type, whether it shares bytes with a text, the cells of an element. -/
structure RowI where
  n : Nat
  e : TypeId
  st : Bool
  ez : Nat
noncomputable def AHeap.info (h : AHeap) (b : Nat) : Option RowI := match h.get b with
  | some (.cells _ n e st ez) => some ⟨n, e, st, ez⟩
  | _ => none
noncomputable def AHeap.cellsAt (h : AHeap) (b : Nat) (o : Nat) : Nat → Option (List AV)
  | 0 => some []
  | n + 1 => match h.at b o with
    | some v => match h.cellsAt b (o + 1) n with
      | some l => some (v :: l)
      | none => none
    | none => none

section at_
variable {h : AHeap} {b o n : Nat} {v : AV}
theorem load_at (hv : h.at b o = some v) : h.load b o 1 = some [v] := by
  unfold AHeap.at at hv
  unfold AHeap.load
  split at hv
  · rename_i t n e st ez hg
    simp only [hg, getCells, hv]
  · cases hv
theorem load_cellsAt_aux : ∀ (n o : Nat), h.cellsAt b o n = (match h.get b with
    | some (.cells t _ _ _ _) => getCells t o n
    | _ => match n with
      | 0 => some []
      | _ + 1 => none)
  | 0, o => by
    simp only [AHeap.cellsAt]
    split <;> simp [getCells]
  | n + 1, o => by
    simp only [AHeap.cellsAt]
    rw [load_cellsAt_aux n (o + 1)]
    unfold AHeap.at
    cases hg : h.get b with
    | none => rfl
    | some ob => cases ob <;> rfl
theorem load_cellsAt : h.load b o (n + 1) = h.cellsAt b o (n + 1) := by
  rw [load_cellsAt_aux]
  unfold AHeap.load
  cases hg : h.get b with
  | none => rfl
  | some ob => cases ob <;> rfl
theorem loadA_one {E : Env} {t : TypeId} {i : TInf} (hi : E.ti.get t = some i) (ha : i.agg = false) : loadA E h t (.ptr b o) = h.at b o := by
  simp only [loadA, hi, loadT, ha]
  rw [show h.load b o 1 = h.cellsAt b o 1 from load_cellsAt]
  simp only [AHeap.cellsAt]
  cases h.at b o <;> rfl
theorem loadA_agg {E : Env} {t : TypeId} {i : TInf} {n : Nat} (hi : E.ti.get t = some i) (ha : i.agg = true) (hs : i.size = n + 1) : loadA E h t (.ptr b o) = (h.cellsAt b o (n + 1)).map .agg := by
  simp only [loadA, hi, loadT, ha, hs]
  rw [show h.load b o (n + 1) = h.cellsAt b o (n + 1) from load_cellsAt]
  cases h.cellsAt b o (n + 1) <;> rfl
end at_

/-- cells over others -/
noncomputable def PT.wr (t : PT AV) (o : Nat) : List AV → PT AV
  | [] => t
  | v :: l => PT.wr (t.set o v) (o + 1) l
theorem PT.get_wr : ∀ (l : List AV) (t : PT AV) (o i : Nat), (t.wr o l).get i = if o ≤ i ∧ i < o + l.length then l[i - o]? else t.get i
  | [], t, o, i => by
    rw [if_neg (by intro ⟨a, b⟩; simp at b; omega)]; rfl
  | v :: l, t, o, i => by
    rw [PT.wr, PT.get_wr l, PT.get_set]
    by_cases h : o + 1 ≤ i ∧ i < o + 1 + l.length
    · rw [if_pos h, if_pos (by simp; omega)]
      have : i - o = (i - (o + 1)) + 1 := by omega
      rw [this]; simp
    · rw [if_neg h]
      by_cases e : i = o
      · subst e
        rw [if_pos rfl, if_pos ⟨Nat.le_refl _, by simp⟩]; simp
      · rw [if_neg e, if_neg (by simp; omega)]
noncomputable def AHeap.wr (h : AHeap) (b o : Nat) (l : List AV) : AHeap := match h.get b with
  | some (.cells t n e st ez) => h.put b (.cells (t.wr o l) n e st ez)
  | _ => h

theorem setCells_wr : ∀ (l : List AV) (n : Nat) (t : PT AV) (o : Nat), o + l.length ≤ n → allFlat l = true → setCells n t o l = some (t.wr o l)
  | [], n, t, o, _, _ => rfl
  | v :: l, n, t, o, h, hf => by
    simp only [allFlat] at hf
    split at hf
    · rename_i hv
      simp only [List.length_cons] at h
      have : Nat.ble (o + 1) n = true := by simp; omega
      simp only [setCells, this, hv, PT.wr]
      exact setCells_wr l n _ (o + 1) (by omega) hf
    · cases hf
theorem store_wr {h : AHeap} {b o : Nat} {l : List AV} {r : RowI} (hr : h.info b = some r) (hl : o + l.length ≤ r.n) (hf : allFlat l = true) : h.store b o l = some (h.wr b o l) := by
  unfold AHeap.info at hr
  split at hr
  · rename_i t n e st ez hg
    cases hr
    simp only [AHeap.store, AHeap.wr, hg, setCells_wr l n t o hl hf]
  · cases hr

theorem AHeap.hget_put (h : AHeap) (b b' : Nat) (x : AObj) : (h.put b x).get b' = if b' = b then some x else h.get b' := PT.get_set _ _ _ _
theorem AHeap.hget_new (h : AHeap) (b' : Nat) (x : AObj) : (h.new x).get b' = if b' = h.next then some x else h.get b' := PT.get_set _ _ _ _
theorem AHeap.hget_kill (h : AHeap) (b b' : Nat) : (h.kill b).get b' = if b' = b then none else h.get b' := PT.get_del _ _ _

section laws
variable {h : AHeap} {b b' o o' : Nat} {l : List AV} {e : TypeId} {st : Bool} {ez : Nat} {x : AObj}
theorem next_put : (h.put b x).next = h.next := rfl
theorem next_new : (h.new x).next = h.next + 1 := rfl
theorem next_kill : (h.kill b).next = h.next := rfl
theorem next_row : (h.row e l st ez).next = h.next + 1 := rfl
theorem next_wr : (h.wr b o l).next = h.next := by unfold AHeap.wr; split <;> rfl
theorem get_wr_ne (hb : b' ≠ b) : (h.wr b o l).get b' = h.get b' := by
  unfold AHeap.wr; split
  · rw [AHeap.hget_put, if_neg hb]
  · rfl
theorem get_row_ne (hb : b' ≠ h.next) : (h.row e l st ez).get b' = h.get b' := by
  unfold AHeap.row; rw [AHeap.hget_new, if_neg hb]
theorem get_new_ne (hb : b' ≠ h.next) : (h.new x).get b' = h.get b' := by rw [AHeap.hget_new, if_neg hb]
theorem get_kill_ne (hb : b' ≠ b) : (h.kill b).get b' = h.get b' := by rw [AHeap.hget_kill, if_neg hb]
theorem get_put_ne (hb : b' ≠ b) : (h.put b x).get b' = h.get b' := by rw [AHeap.hget_put, if_neg hb]
theorem at_of_get {h' : AHeap} (e : h'.get b = h.get b) : h'.at b o = h.at b o := by unfold AHeap.at; rw [e]
theorem info_of_get {h' : AHeap} (e : h'.get b = h.get b) : h'.info b = h.info b := by unfold AHeap.info; rw [e]
theorem at_wr_ne (hb : b' ≠ b) : (h.wr b o l).at b' o' = h.at b' o' := at_of_get (get_wr_ne hb)
theorem at_row_ne (hb : b' ≠ h.next) : (h.row e l st ez).at b' o' = h.at b' o' := at_of_get (get_row_ne hb)
theorem at_new_ne (hb : b' ≠ h.next) : (h.new x).at b' o' = h.at b' o' := at_of_get (get_new_ne hb)
theorem at_kill_ne (hb : b' ≠ b) : (h.kill b).at b' o' = h.at b' o' := at_of_get (get_kill_ne hb)
theorem at_put_ne (hb : b' ≠ b) : (h.put b x).at b' o' = h.at b' o' := at_of_get (get_put_ne hb)
theorem info_wr_ne (hb : b' ≠ b) : (h.wr b o l).info b' = h.info b' := info_of_get (get_wr_ne hb)
theorem info_row_ne (hb : b' ≠ h.next) : (h.row e l st ez).info b' = h.info b' := info_of_get (get_row_ne hb)
theorem info_new_ne (hb : b' ≠ h.next) : (h.new x).info b' = h.info b' := info_of_get (get_new_ne hb)
theorem info_kill_ne (hb : b' ≠ b) : (h.kill b).info b' = h.info b' := info_of_get (get_kill_ne hb)
theorem info_put_ne (hb : b' ≠ b) : (h.put b x).info b' = h.info b' := info_of_get (get_put_ne hb)
theorem info_wr : (h.wr b o l).info b' = h.info b' := by
  by_cases hb : b' = b
  · subst hb
    unfold AHeap.wr
    split
    · rename_i hg
      unfold AHeap.info
      rw [AHeap.hget_put, if_pos rfl, hg]
    · rfl
  · exact info_wr_ne hb
theorem at_wr_eq {r : RowI} (hr : h.info b = some r) : (h.wr b o l).at b o' = if o ≤ o' ∧ o' < o + l.length then l[o' - o]? else h.at b o' := by
  unfold AHeap.info at hr
  split at hr
  · rename_i t n e st ez hg
    cases hr
    simp only [AHeap.wr, hg, AHeap.at, AHeap.hget_put, if_true, PT.get_wr]
  · cases hr
theorem at_wr_in {r : RowI} (hr : h.info b = some r) (h1 : o ≤ o') (h2 : o' < o + l.length) : (h.wr b o l).at b o' = l[o' - o]? := by rw [at_wr_eq hr, if_pos ⟨h1, h2⟩]
theorem at_wr_out (h1 : o' < o ∨ o + l.length ≤ o') : (h.wr b o l).at b' o' = h.at b' o' := by
  by_cases hb : b' = b
  · subst hb
    cases hr : h.info b' with
    | none =>
      unfold AHeap.wr
      split
      · rename_i hg; simp [AHeap.info, hg] at hr
      · rfl
    | some r => rw [at_wr_eq hr, if_neg (by omega)]
  · exact at_wr_ne hb
theorem at_row_eq : (h.row e l st ez).at h.next o' = l[o']? := by
  simp only [AHeap.row, AHeap.at, AHeap.hget_new, if_true, PT.get_ofList, Nat.zero_le, true_and, Nat.zero_add, Nat.sub_zero, PT.get_lf]
  split
  · rfl
  · rw [List.getElem?_eq_none (by omega)]
theorem info_row_eq : (h.row e l st ez).info h.next = some ⟨l.length, e, st, ez⟩ := by
  simp only [AHeap.row, AHeap.info, AHeap.hget_new, if_true]
end laws

/-! ### operations -/
section op
variable {E : Env} {h : AHeap} {fr : Fr} {l : TL}
theorem opA_move {x : Operand} : opA E h fr (.move x) = oVal (opnd fr x) := rfl
theorem opA_assign {x : Operand} : opA E h fr (.assign x) = oVal (opnd fr x) := rfl
theorem opA_pick {c a b : Operand} : opA E h fr (.pick c a b) = o1 (opnd fr c) fun c => pickA c (opnd fr a) (opnd fr b) := rfl
theorem opA_alloc {t : TypeId} : opA E h fr (.alloc t) = allocA E h t := rfl
theorem opA_box {t : TypeId} {x : Operand} : opA E h fr (.box t x) = o1 (opnd fr x) (boxA h t) := rfl
theorem opA_build {t : TypeId} {ps : Array (Nat × Operand)} : opA E h fr (.build t ps) = oP (partsA fr ps.toList) (buildA E t) := rfl
theorem opA_buildSlice {t : TypeId} {n : Nat} {ps : Array (Nat × Operand)} : opA E h fr (.buildSlice t n ps) = oP (partsA fr ps.toList) (buildSliceA E h t n) := rfl
theorem opA_load {t : TypeId} {a : Operand} : opA E h fr (.load t a) = o1 (opnd fr a) fun v => oVal (loadA E h t v) := rfl
theorem opA_store {t : TypeId} {a x : Operand} : opA E h fr (.store t a x) = o2 (opnd fr a) (opnd fr x) fun a v => oMem (storeA E h t a v) := rfl
theorem opA_nilCheck {x : Operand} : opA E h fr (.nilCheck x) = o1 (opnd fr x) nilCheckA := rfl
theorem opA_binOp {op : BinOp} {t : TypeId} {x y : Operand} {u : TypeId} : opA E h fr (.binOp op t x y u) = o2 (opnd fr x) (opnd fr y) (binA E h op t (isCst x || isCst y)) := rfl
theorem opA_unOp {op : UnOp} {t : TypeId} {x : Operand} : opA E h fr (.unOp op t x) = o1 (opnd fr x) (unA op) := rfl
theorem opA_convert {s d : TypeId} {x : Operand} : opA E h fr (.convert s d x) = o1 (opnd fr x) (convA E h s d) := rfl
theorem opA_makeInterface {t : TypeId} {x : Operand} : opA E h fr (.makeInterface t x) = o1 (opnd fr x) (ifaceA E t) := rfl
theorem opA_makeFunc {fn : Fn} {a b : Array Operand} : opA E h fr (.makeFunc fn a b) = oL (opnds fr a.toList) fun a => oL (opnds fr b.toList) fun b => mkFunc fn a b := rfl
theorem opA_makeMap {t : TypeId} {r : Option Operand} : opA E h fr (.makeMap t r) = makeMapA E h t r := rfl
theorem opA_makeSlice {t : TypeId} {x y : Operand} : opA E h fr (.makeSlice t x y) = o2 (opnd fr x) (opnd fr y) (makeSliceA E h t) := rfl
theorem opA_slice {t : TypeId} {x : Operand} {lo hi mx : Option Operand} : opA E h fr (.slice t x lo hi mx) = o1 (opnd fr x) fun x => oO (optA fr lo) fun lo => oO (optA fr hi) fun hi => oO (optA fr mx) fun mx => sliceA E h t x lo hi mx := rfl
theorem opA_fieldAddr {t : TypeId} {x : Operand} {f : Nat} : opA E h fr (.fieldAddr t x f) = o1 (opnd fr x) fun v => fieldAddrA E t v f := rfl
theorem opA_field {t : TypeId} {x : Operand} {f : Nat} : opA E h fr (.field t x f) = o1 (opnd fr x) fun v => fieldA E t v f := rfl
theorem opA_indexAddr {t : TypeId} {x i : Operand} : opA E h fr (.indexAddr t x i) = o2 (opnd fr x) (opnd fr i) (indexAddrA E t) := rfl
theorem opA_index {t : TypeId} {x i : Operand} : opA E h fr (.index t x i) = o2 (opnd fr x) (opnd fr i) (indexA E t) := rfl
theorem opA_lookup {t : TypeId} {x k : Operand} {ok : Bool} : opA E h fr (.lookup t x k ok) = o2 (opnd fr x) (opnd fr k) fun x k => oVal (lookupA E h t x k ok) := rfl
theorem opA_mapUpdate {t : TypeId} {m k x : Operand} : opA E h fr (.mapUpdate t m k x) = o2 (opnd fr m) (opnd fr k) fun m k => o1 (opnd fr x) fun x => oMem (mapUpdateA E h t m k x) := rfl
theorem opA_range {t : TypeId} {x : Operand} : opA E h fr (.range t x) = o1 (opnd fr x) (rangeA E h t) := rfl
theorem opA_next {x : Operand} {s : Bool} : opA E h fr (.next x s) = o1 (opnd fr x) fun v => nextA h v s := rfl
theorem opA_typeAssert {x : Operand} {t u : TypeId} {ok : Bool} : opA E h fr (.typeAssert x t u ok) = o1 (opnd fr x) fun v => typeAssertA E v u ok := rfl
theorem opA_extract {x : Operand} {i : Nat} : opA E h fr (.extract x i) = o1 (opnd fr x) fun v => extractA v i := rfl
theorem opA_builtin {b : Builtin} {args : Array Operand} {ts : Array TypeId} : opA E h fr (.call { callee := .builtin b, args := args, argTypes := ts }) = oL (opnds fr args.toList) fun l => builtA E h b ts l := rfl
theorem opA_call {f : Operand} {args : Array Operand} {ts : Array TypeId} : opA E h fr (.call { callee := .value f, args := args, argTypes := ts }) = o1 (opnd fr f) fun f => oL (opnds fr args.toList) fun l => callX E h f l := rfl
theorem opA_defer {f : Operand} {args : Array Operand} {ts : Array TypeId} : opA E h fr (.defer { callee := .value f, args := args, argTypes := ts }) = o1 (opnd fr f) fun f => oL (opnds fr args.toList) fun l => dfrOf f l := rfl

theorem opnd_tmp {t : Tmp} : opnd l.fr (.tmp t) = l.get t := TL.fr_get l t
theorem opnd_const {v : Value} : opnd fr (.const v) = AV.ofConst v := rfl
theorem opnd_func {f : FuncId} : opnd fr (.func f) = some (.func (.func f) [] []) := rfl
theorem opnds_nil : opnds fr [] = some [] := rfl
theorem opnds_cons {x : Operand} {xs : List Operand} : opnds fr (x :: xs) = match opnd fr x with
    | some v => match opnds fr xs with
      | some vs => some (v :: vs)
      | none => none
    | none => none := rfl
theorem partsA_nil : partsA fr [] = some [] := rfl
theorem partsA_cons {i : Nat} {x : Operand} {xs : List (Nat × Operand)} : partsA fr ((i, x) :: xs) = match opnd fr x with
    | some v => match partsA fr xs with
      | some vs => some ((i, v) :: vs)
      | none => none
    | none => none := rfl
theorem optA_none : optA fr none = some none := rfl
theorem optA_some {x : Operand} : optA fr (some x) = match opnd fr x with
    | some v => some (some v)
    | none => none := rfl
theorem ofConst_int {k : IntKind} {n : Int} : AV.ofConst (.int k n) = some (.int k n) := rfl
theorem ofConst_bool {b : Bool} : AV.ofConst (.bool b) = some (.bool b) := rfl
theorem ofConst_str {s : ByteArray} : AV.ofConst (.string s) = some (.str s.data.toList) := rfl
theorem ofConst_nil : AV.ofConst (.pointer none) = some .nilPtr := rfl
theorem ofConst_slice : AV.ofConst (.slice none 0 0) = some .nilSlice := rfl
theorem ofConst_map : AV.ofConst (.map none) = some .nilMap := rfl
theorem ofConst_iface : AV.ofConst .nilIface = some .nilIface := rfl
theorem ofConst_func : AV.ofConst .nilFunc = some .nilFunc := rfl

theorem oVal_some {v : AV} : oVal (some v) = some (.val v) := rfl
theorem oMem_some {h : AHeap} : oMem (some h) = some (.mem (.tuple []) h) := rfl
theorem o1_some {v : AV} {f : AV → Option OpR} : o1 (some v) f = f v := rfl
theorem o2_some {v w : AV} {f : AV → AV → Option OpR} : o2 (some v) (some w) f = f v w := rfl
theorem oL_some {v : List AV} {f : List AV → Option OpR} : oL (some v) f = f v := rfl
theorem oP_some {v : List (Nat × AV)} {f : List (Nat × AV) → Option OpR} : oP (some v) f = f v := rfl
theorem oO_some {v : Option AV} {f : Option AV → Option OpR} : oO (some v) f = f v := rfl

theorem vInt_eq {k : IntKind} {n : Int} : vInt k n = some (.val (.int k n)) := by unfold vInt; rw [fInt_eq]
theorem vBool_eq {b : Bool} : vBool b = some (.val (.bool b)) := by cases b <;> rfl
theorem vStr_eq {s : List UInt8} : vStr s = some (.val (.str s)) := by unfold vStr; rw [fList_eq]

theorem binA_int {op : BinOp} {t : TypeId} {c : Bool} {k : IntKind} {a b : Int} (h1 : op ≠ .shl) (h2 : op ≠ .shr) : binA E h op t c (.int k a) (.int k b) = arith op k a b := by
  unfold binA
  cases op <;> simp at h1 h2 ⊢
theorem bin_add {t : TypeId} {c : Bool} {k : IntKind} {a b : Int} : binA E h .add t c (.int k a) (.int k b) = some (.val (.int k (k.wrap (a + b)))) := by
  rw [binA_int (by decide) (by decide)]; simp only [arith, vInt_eq]
theorem bin_sub {t : TypeId} {c : Bool} {k : IntKind} {a b : Int} : binA E h .sub t c (.int k a) (.int k b) = some (.val (.int k (k.wrap (a - b)))) := by
  rw [binA_int (by decide) (by decide)]; simp only [arith, vInt_eq]
theorem bin_mul {t : TypeId} {c : Bool} {k : IntKind} {a b : Int} : binA E h .mul t c (.int k a) (.int k b) = some (.val (.int k (k.wrap (a * b)))) := by
  rw [binA_int (by decide) (by decide)]; simp only [arith, vInt_eq]
theorem bin_eql {t : TypeId} {c : Bool} {k : IntKind} {a b : Int} : binA E h .eql t c (.int k a) (.int k b) = some (.val (.bool (decide (a = b)))) := by
  rw [binA_int (by decide) (by decide)]; simp only [arith, vBool_eq]
theorem bin_neq {t : TypeId} {c : Bool} {k : IntKind} {a b : Int} : binA E h .neq t c (.int k a) (.int k b) = some (.val (.bool (!decide (a = b)))) := by
  rw [binA_int (by decide) (by decide)]; simp only [arith, vBool_eq]
theorem bin_lss {t : TypeId} {c : Bool} {k : IntKind} {a b : Int} : binA E h .lss t c (.int k a) (.int k b) = some (.val (.bool (decide (a < b)))) := by
  rw [binA_int (by decide) (by decide)]; simp only [arith, vBool_eq]
theorem bin_leq {t : TypeId} {c : Bool} {k : IntKind} {a b : Int} : binA E h .leq t c (.int k a) (.int k b) = some (.val (.bool (decide (a ≤ b)))) := by
  rw [binA_int (by decide) (by decide)]; simp only [arith, vBool_eq]
theorem bin_gtr {t : TypeId} {c : Bool} {k : IntKind} {a b : Int} : binA E h .gtr t c (.int k a) (.int k b) = some (.val (.bool (decide (b < a)))) := by
  rw [binA_int (by decide) (by decide)]; simp only [arith, vBool_eq]
theorem bin_geq {t : TypeId} {c : Bool} {k : IntKind} {a b : Int} : binA E h .geq t c (.int k a) (.int k b) = some (.val (.bool (decide (b ≤ a)))) := by
  rw [binA_int (by decide) (by decide)]; simp only [arith, vBool_eq]
theorem bin_quo {t : TypeId} {c : Bool} {k : IntKind} {a b : Int} (hb : b ≠ 0) : binA E h .quo t c (.int k a) (.int k b) = some (.val (.int k (k.wrap (a.tdiv b)))) := by
  rw [binA_int (by decide) (by decide)]; simp only [arith, vInt_eq, hb, decide_false]
theorem bin_rem {t : TypeId} {c : Bool} {k : IntKind} {a b : Int} (hb : b ≠ 0) : binA E h .rem t c (.int k a) (.int k b) = some (.val (.int k (a.tmod b))) := by
  rw [binA_int (by decide) (by decide)]; simp only [arith, vInt_eq, hb, decide_false]
theorem eqBytes_dec : ∀ (a b : List UInt8), eqBytes a b = decide (a = b)
  | [], [] => rfl
  | [], _ :: _ => rfl
  | _ :: _, [] => rfl
  | x :: a, y :: b => by
    simp only [eqBytes]
    split
    · rename_i e
      have : x = y := UInt8.toNat_inj.1 (by simpa using e)
      subst this
      rw [eqBytes_dec a b]; simp
    · rename_i e
      have : ¬ x = y := fun e2 => by subst e2; simp at e
      simp [this]
theorem bin_str_eql {t : TypeId} {c : Bool} {a b : List UInt8} : binA E h .eql t c (.str a) (.str b) = some (.val (.bool (decide (a = b)))) := by
  simp only [binA, vBool_eq, eqBytes_dec]
theorem bin_str_neq {t : TypeId} {c : Bool} {a b : List UInt8} : binA E h .neq t c (.str a) (.str b) = some (.val (.bool (!decide (a = b)))) := by
  simp only [binA, vBool_eq, eqBytes_dec]
theorem bin_str_add {t : TypeId} {c : Bool} {a b : List UInt8} (hl : a.length + b.length ≤ 1000000000) : binA E h .add t c (.str a) (.str b) = some (.val (.str (a ++ b))) := by
  have : Nat.ble (a.length + b.length) 1000000000 = true := by simpa using hl
  simp only [binA, this, vStr_eq]
theorem bin_nil_eql_nil {t e : TypeId} {c : Bool} {i : TInf} (hi : E.ti.get t = some i) (hd : i.desc = .pointer e) : binA E h .eql t c .nilPtr .nilPtr = some (.val (.bool true)) := by
  simp only [binA, eqVal, hi, hd, vBool_eq]
theorem bin_nil_eql_ptr {t e : TypeId} {c : Bool} {i : TInf} {b o : Nat} (hi : E.ti.get t = some i) (hd : i.desc = .pointer e) : binA E h .eql t c (.ptr b o) .nilPtr = some (.val (.bool false)) := by
  simp only [binA, eqVal, hi, hd, vBool_eq]
theorem bin_nil_neq_nil {t e : TypeId} {c : Bool} {i : TInf} (hi : E.ti.get t = some i) (hd : i.desc = .pointer e) : binA E h .neq t c .nilPtr .nilPtr = some (.val (.bool false)) := by
  simp only [binA, eqVal, hi, hd, vBool_eq]; rfl
theorem bin_nil_neq_ptr {t e : TypeId} {c : Bool} {i : TInf} {b o : Nat} (hi : E.ti.get t = some i) (hd : i.desc = .pointer e) : binA E h .neq t c (.ptr b o) .nilPtr = some (.val (.bool true)) := by
  simp only [binA, eqVal, hi, hd, vBool_eq]; rfl
theorem un_not {b : Bool} : unA .not (.bool b) = some (.val (.bool (!b))) := by simp only [unA, vBool_eq]
theorem un_neg {k : IntKind} {n : Int} : unA .neg (.int k n) = some (.val (.int k (k.wrap (0 - n)))) := by simp only [unA, vInt_eq]
theorem conv_int {s d : TypeId} {k j : IntKind} {n : Int} {i i' : TInf} (hi : E.ti.get s = some i) (hi' : E.ti.get d = some i') (hd : i'.desc = .int k) : convA E h s d (.int j n) = some (.val (.int k (k.wrap n))) := by
  simp only [convA, hi, hi', hd, vInt_eq]

theorem pick_true {a b : Option AV} : pickA (.bool true) a b = match a with
    | some v => some (.val v)
    | none => none := rfl
theorem pick_false {a b : Option AV} : pickA (.bool false) a b = match b with
    | some v => some (.val v)
    | none => none := rfl
theorem nilCheck_ptr {b o : Nat} : nilCheckA (.ptr b o) = some (.val (.ptr b o)) := rfl
theorem nilCheck_func {f : FuncId} {a c : List AV} : nilCheckA (.func (.func f) a c) = some (.val (.func (.func f) a c)) := rfl
theorem extract_tuple {vs : List AV} {i : Nat} : extractA (.tuple vs) i = match vs[i]? with
    | some v => some (.val v)
    | none => none := rfl
theorem fieldAddr_eq {t : TypeId} {b o f off : Nat} {y : TInf} (hf : fieldOf E t f = some (off, y)) (hy : Nat.ble 1 y.size = true) : fieldAddrA E t (.ptr b o) f = some (.val (.ptr b (o + off))) := by
  simp only [fieldAddrA, hf, fNat_eq]
  cases hs : y.size with
  | zero => rw [hs] at hy; cases hy
  | succ n => rfl
theorem field_eq {t : TypeId} {cs : List AV} {f off : Nat} {y : TInf} (hf : fieldOf E t f = some (off, y)) : fieldA E t (.agg cs) f = match partA y cs off with
      | some v => some (.val v)
      | none => none := by
  simp only [fieldA, hf]
  rfl
theorem box_eq {t : TypeId} {v : AV} (hf : allFlat v.cells = true) : boxA h t v = some (.mem (.ptr h.next 0) (h.row t v.cells false 0)) := by
  simp only [boxA, hf]
theorem alloc_eq {t : TypeId} {i : TInf} {z : List AV} (hi : E.ti.get t = some i) (hz : i.zero = some z) : allocA E h t = some (.mem (.ptr h.next 0) (h.row t z false 0)) := by
  simp only [allocA, hi, hz]
theorem store_eq {t : TypeId} {i : TInf} {b o : Nat} {v : AV} {r : RowI} (hi : E.ti.get t = some i) (hv : Nat.beq v.cells.length i.size = true) (hf : allFlat v.cells = true) (hr : h.info b = some r) (hl : o + i.size ≤ r.n) : storeA E h t (.ptr b o) v = some (h.wr b o v.cells) := by
  simp only [storeA, sizeA, hi, hv]
  exact store_wr hr (by rw [Nat.eq_of_beq_eq_true hv]; exact hl) hf
theorem idx_eq {k : IntKind} {m n : Nat} (hm : m < n) : idx (.int k (m : Int)) n = some m := by
  have : Nat.ble (m + 1) n = true := by simp; omega
  show (match Nat.ble (m + 1) n with
    | true => some m
    | false => none) = some m
  rw [this]
theorem indexAddr_slice {t e : TypeId} {i y : TInf} {b o len m : Nat} {c : Option Nat} {k : IntKind} (hi : E.ti.get t = some i) (hd : i.desc = .slice e) (hy : E.ti.get e = some y) (hm : m < len) :
    indexAddrA E t (.slice b o len c) (.int k (m : Int)) = some (.val (.ptr b (o + m * y.size))) := by
  simp only [indexAddrA, hi, hd, idx_eq hm, sizeA, hy, fNat_eq]
theorem indexAddr_array {t e : TypeId} {i y : TInf} {b o len m : Nat} {k : IntKind} (hi : E.ti.get t = some i) (hd : i.desc = .array len e) (hy : E.ti.get e = some y) (hm : m < len) :
    indexAddrA E t (.ptr b o) (.int k (m : Int)) = some (.val (.ptr b (o + m * y.size))) := by
  simp only [indexAddrA, hi, hd, idx_eq hm, sizeA, hy, fNat_eq]
theorem callX_fn {f : FuncId} {a c as : List AV} (hx : E.ex.get f = none) : callX E h (.func (.func f) a c) as = some (.call f (a ++ as ++ c)) := by
  simp only [callX, callA, hx]

theorem want_plain {ops : Array Oper} {o : Oper} (hg : o.guard = none) : want ops fr o = some true := by unfold want; rw [hg]
theorem want_guard {ops : Array Oper} {o : Oper} {j : Nat} {b c : Bool} {d : Nat} (hg : o.guard = some (j, b)) (hd : (ops[j]?).bind (·.dst) = some d) (hv : fr.get d = some (.bool c)) : want ops fr o = some (c == b) := by
  unfold want; rw [hg]; simp only [wantD, hd, wantV, hv]
theorem want_guard0 {ops : Array Oper} {o : Oper} {j : Nat} {b : Bool} {d : Nat} (hg : o.guard = some (j, b)) (hd : (ops[j]?).bind (·.dst) = some d) (hv : fr.get d = some (.tuple [])) : want ops fr o = some false := by
  unfold want; rw [hg]; simp only [wantD, hd, wantV, hv]
end op

/-! ### what stays -/
structure Kept (M : Nat → Prop) (h h' : AHeap) : Prop where
  next : h.next ≤ h'.next
  get : ∀ b, b < h.next → ¬ M b → h'.get b = h.get b
theorem Kept.refl (M : Nat → Prop) (h : AHeap) : Kept M h h := ⟨Nat.le_refl _, fun _ _ _ => rfl⟩
theorem Kept.trans {M : Nat → Prop} {h₁ h₂ h₃ : AHeap} (a : Kept M h₁ h₂) (b : Kept M h₂ h₃) : Kept M h₁ h₃ :=
  ⟨Nat.le_trans a.next b.next, fun x hx hm => (b.get x (Nat.lt_of_lt_of_le hx a.next) hm).trans (a.get x hx hm)⟩
theorem Kept.weak {M M' : Nat → Prop} {h h' : AHeap} (hm : ∀ b, b < h.next → M b → M' b) (a : Kept M h h') : Kept M' h h' := ⟨a.next, fun b hb hn => a.get b hb fun x => hn (hm b hb x)⟩
theorem Kept.at {M : Nat → Prop} {h h' : AHeap} (a : Kept M h h') {b o : Nat} (hb : b < h.next) (hn : ¬ M b) : h'.at b o = h.at b o := at_of_get (a.get b hb hn)
theorem Kept.info {M : Nat → Prop} {h h' : AHeap} (a : Kept M h h') {b : Nat} (hb : b < h.next) (hn : ¬ M b) : h'.info b = h.info b := info_of_get (a.get b hb hn)
theorem Kept.row {M : Nat → Prop} {h : AHeap} {e : TypeId} {l : List AV} {st : Bool} {ez : Nat} : Kept M h (h.row e l st ez) := ⟨by rw [next_row]; omega, fun b hb _ => get_row_ne (by omega)⟩
theorem Kept.new {M : Nat → Prop} {h : AHeap} {x : AObj} : Kept M h (h.new x) := ⟨by rw [next_new]; omega, fun b hb _ => get_new_ne (by omega)⟩
theorem Kept.wr {M : Nat → Prop} {h : AHeap} {b o : Nat} {l : List AV} (hm : M b) : Kept M h (h.wr b o l) := ⟨by rw [next_wr]; exact Nat.le_refl _, fun x hx hn => get_wr_ne fun e => hn (e ▸ hm)⟩
theorem Kept.kill {M : Nat → Prop} {h : AHeap} {b : Nat} (hm : M b) : Kept M h (h.kill b) := ⟨Nat.le_refl _, fun x hx hn => get_kill_ne fun e => hn (e ▸ hm)⟩
theorem Kept.put {M : Nat → Prop} {h : AHeap} {b : Nat} {x : AObj} (hm : M b) : Kept M h (h.put b x) := ⟨Nat.le_refl _, fun y hx hn => get_put_ne fun e => hn (e ▸ hm)⟩
/-! from one memory on -/
section from_
variable {M M' : Nat → Prop} {h h₁ h₂ : AHeap} {b o : Nat} {l : List AV} {e : TypeId} {st : Bool} {ez : Nat} {x : AObj}
theorem Kept.thenRow (a : Kept M h h₁) : Kept M h (h₁.row e l st ez) := a.trans ⟨by rw [next_row]; omega, fun b hb _ => get_row_ne (by omega)⟩
theorem Kept.thenNew (a : Kept M h h₁) : Kept M h (h₁.new x) := a.trans ⟨by rw [next_new]; omega, fun b hb _ => get_new_ne (by omega)⟩
theorem Kept.thenWr (a : Kept M h h₁) (hb : h.next ≤ b ∨ M b) : Kept M h (h₁.wr b o l) :=
  ⟨by rw [next_wr]; exact a.next, fun y hy hn => (get_wr_ne fun e => hb.elim (fun h1 => by omega) fun h1 => hn (by rw [e]; exact h1)).trans (a.get y hy hn)⟩
theorem Kept.thenKill (a : Kept M h h₁) (hb : h.next ≤ b ∨ M b) : Kept M h (h₁.kill b) :=
  ⟨by rw [next_kill]; exact a.next, fun y hy hn => (get_kill_ne fun e => hb.elim (fun h1 => by omega) fun h1 => hn (by rw [e]; exact h1)).trans (a.get y hy hn)⟩
theorem Kept.thenPut (a : Kept M h h₁) (hb : h.next ≤ b ∨ M b) : Kept M h (h₁.put b x) :=
  ⟨by rw [next_put]; exact a.next, fun y hy hn => (get_put_ne fun e => hb.elim (fun h1 => by omega) fun h1 => hn (by rw [e]; exact h1)).trans (a.get y hy hn)⟩
theorem Kept.thenCall (a : Kept M h h₁) (c : Kept M' h₁ h₂) (hm : ∀ b, b < h.next → M' b → M b) : Kept M h h₂ :=
  ⟨Nat.le_trans a.next c.next, fun y hy hn => (c.get y (Nat.lt_of_lt_of_le hy a.next) fun x => hn (hm y hy x)).trans (a.get y hy hn)⟩
theorem Kept.thenNone (a : Kept M h h₁) (c : Kept (fun _ => False) h₁ h₂) : Kept M h h₂ := a.thenCall c fun _ _ x => x.elim
end from_
end Go.Abs
