/-
  The equations of the operations of some functions of the program. Conditions: none.
-/
import Derived.Test.YtdjbahegkilmlaaProg
import Derived.Test.YtdjbahegkilmlaaAbsV
set_option linter.unusedVariables false
namespace Go.Proofs.Ytdjbahegkilmlaa
open Go Go.Abs

noncomputable def E0 : Env := mkEnv Try.prog
section
variable {h : AHeap} {b o n : Nat} {v : AV} {r : RowI}

theorem ld3 : loadA E0 h 3 (.ptr b o) = h.at b o := ldOne (by kernel_rfl)
theorem ld23 : loadA E0 h 23 (.ptr b o) = (h.cellsAt b o 11).map .agg := ldAgg (n := 10) (by kernel_rfl)
theorem ld24 : loadA E0 h 24 (.ptr b o) = (h.cellsAt b o 6).map .agg := ldAgg (n := 5) (by kernel_rfl)
theorem st24 {cs : List AV} (hc : cs.length = 6) (hf : allFlat cs = true) : storeA E0 h 24 (.ptr b o) (.agg cs) = stW h b o cs (h.info b) := stAggW (by kernel_rfl) hc hf
theorem fa23x0 : fieldAddrA E0 23 (.ptr b o) 0 = some (.val (.ptr b (o + 0))) := faEq (by kernel_rfl)
theorem fa23x1 : fieldAddrA E0 23 (.ptr b o) 1 = some (.val (.ptr b (o + 1))) := faEq (by kernel_rfl)
theorem fa23x2 : fieldAddrA E0 23 (.ptr b o) 2 = some (.val (.ptr b (o + 2))) := faEq (by kernel_rfl)
theorem fa23x3 : fieldAddrA E0 23 (.ptr b o) 3 = some (.val (.ptr b (o + 3))) := faEq (by kernel_rfl)
theorem fa23x4 : fieldAddrA E0 23 (.ptr b o) 4 = some (.val (.ptr b (o + 4))) := faEq (by kernel_rfl)
theorem fa23x5 : fieldAddrA E0 23 (.ptr b o) 5 = some (.val (.ptr b (o + 5))) := faEq (by kernel_rfl)
theorem fa23x6 : fieldAddrA E0 23 (.ptr b o) 6 = some (.val (.ptr b (o + 6))) := faEq (by kernel_rfl)
theorem fa23x7 : fieldAddrA E0 23 (.ptr b o) 7 = some (.val (.ptr b (o + 7))) := faEq (by kernel_rfl)
theorem fa23x8 : fieldAddrA E0 23 (.ptr b o) 8 = some (.val (.ptr b (o + 8))) := faEq (by kernel_rfl)
theorem fa23x9 : fieldAddrA E0 23 (.ptr b o) 9 = some (.val (.ptr b (o + 9))) := faEq (by kernel_rfl)
theorem fa23x10 : fieldAddrA E0 23 (.ptr b o) 10 = some (.val (.ptr b (o + 10))) := faEq (by kernel_rfl)
theorem ia24 {m : Nat} {k : IntKind} (hm : m < 6) : indexAddrA E0 24 (.ptr b o) (.int k (m : Int)) = some (.val (.ptr b (o + m * 1))) := iaAr (by kernel_rfl) hm
theorem ia33 {m len : Nat} {c : Option Nat} {k : IntKind} (hm : m < len) : indexAddrA E0 33 (.slice b o len c) (.int k (m : Int)) = some (.val (.ptr b (o + m * 1))) := iaSl (by kernel_rfl) hm
theorem bd23 {ps : List (Nat × AV)} : buildA E0 23 ps = builtAgg (fillA (fun i => ([(0, 1), (1, 1), (2, 1), (3, 1), (4, 1), (5, 1), (6, 1), (7, 1), (8, 1), (9, 1), (10, 1)] : List (Nat × Nat))[i]?) [.int .i64 0, .int .i64 0, .int .i64 0, .int .i64 0, .int .i64 0, .int .i64 0, .int .i64 0, .int .i64 0, .int .i64 0, .int .i64 0, .int .i64 0] ps) := bdStruct (by kernel_rfl) (by kernel_rfl)
theorem al24 : allocA E0 h 24 = some (.mem (.ptr h.next 0) (h.row 24 [.int .i64 0, .int .i64 0, .int .i64 0, .int .i64 0, .int .i64 0, .int .i64 0] false 0)) := alEq (by kernel_rfl)
theorem bd24 {ps : List (Nat × AV)} : buildA E0 24 ps = builtAgg (fillA (fun i => some (i * 1, 1)) [.int .i64 0, .int .i64 0, .int .i64 0, .int .i64 0, .int .i64 0, .int .i64 0] ps) := bdArray (n := 6) (by kernel_rfl) (by kernel_rfl)
theorem len33 {len : Nat} {c : Option Nat} : builtA E0 h .len #[33] [.slice b o len c] = some (.val (.int .i64 (len : Int))) := lenSl (by kernel_rfl)
theorem lenNil33 : builtA E0 h .len #[33] [.nilSlice] = some (.val (.int .i64 0)) := lenNil (by kernel_rfl)
theorem lenZ33 : builtA E0 h .len #[33] [.slice0 b] = some (.val (.int .i64 0)) := lenZero (by kernel_rfl)
theorem noMap33 : isMap E0 33 = false := by kernel_rfl
theorem sl24 : sliceA E0 h 24 (.ptr b o) none none none = some (.val (.slice b o 6 (some 6))) := slAr (n := 5) (z := 1) (by kernel_rfl)
theorem clLen33 {xs : Array Operand} : cls E0 (.call { callee := .builtin .len, args := xs, argTypes := #[33] }) = .pure := cls_len rfl noMap33
theorem cx4 {a c xs : List AV} : callX E0 h (.func (.func 4) a c) xs = some (.call 4 (a ++ xs ++ c)) := callX_fn (by kernel_rfl)
theorem cx5 {a c xs : List AV} : callX E0 h (.func (.func 5) a c) xs = some (.call 5 (a ++ xs ++ c)) := callX_fn (by kernel_rfl)
theorem cx6 {a c xs : List AV} : callX E0 h (.func (.func 6) a c) xs = some (.call 6 (a ++ xs ++ c)) := callX_fn (by kernel_rfl)
theorem cx7 {a c xs : List AV} : callX E0 h (.func (.func 7) a c) xs = some (.call 7 (a ++ xs ++ c)) := callX_fn (by kernel_rfl)
theorem cx8 {a c xs : List AV} : callX E0 h (.func (.func 8) a c) xs = some (.call 8 (a ++ xs ++ c)) := callX_fn (by kernel_rfl)
theorem cx9 {a c xs : List AV} : callX E0 h (.func (.func 9) a c) xs = some (.call 9 (a ++ xs ++ c)) := callX_fn (by kernel_rfl)
theorem cx10 {a c xs : List AV} : callX E0 h (.func (.func 10) a c) xs = some (.call 10 (a ++ xs ++ c)) := callX_fn (by kernel_rfl)
theorem cx11 {a c xs : List AV} : callX E0 h (.func (.func 11) a c) xs = some (.call 11 (a ++ xs ++ c)) := callX_fn (by kernel_rfl)
theorem cx12 {a c xs : List AV} : callX E0 h (.func (.func 12) a c) xs = some (.call 12 (a ++ xs ++ c)) := callX_fn (by kernel_rfl)
theorem cx13 {a c xs : List AV} : callX E0 h (.func (.func 13) a c) xs = some (.call 13 (a ++ xs ++ c)) := callX_fn (by kernel_rfl)
theorem cx17 {a c xs : List AV} : callX E0 h (.func (.func 17) a c) xs = some (.call 17 (a ++ xs ++ c)) := callX_fn (by kernel_rfl)
theorem beql4 {c x y : Bool} : binA E0 h .eql 4 c (.bool x) (.bool y) = some (.val (.bool (x == y))) := beqlB (by kernel_rfl)
theorem bneq4 {c x y : Bool} : binA E0 h .neq 4 c (.bool x) (.bool y) = some (.val (.bool (!(x == y)))) := bneqB (by kernel_rfl)
end
theorem fn3 : E0.fn.get 3 = some Try.f3 := fnGet Try.func3
theorem fn4 : E0.fn.get 4 = some Try.f4 := fnGet Try.func4
theorem fn5 : E0.fn.get 5 = some Try.f5 := fnGet Try.func5
theorem fn6 : E0.fn.get 6 = some Try.f6 := fnGet Try.func6
theorem fn7 : E0.fn.get 7 = some Try.f7 := fnGet Try.func7
theorem fn9 : E0.fn.get 9 = some Try.f9 := fnGet Try.func9
theorem fn10 : E0.fn.get 10 = some Try.f10 := fnGet Try.func10
theorem fn11 : E0.fn.get 11 = some Try.f11 := fnGet Try.func11
theorem fn12 : E0.fn.get 12 = some Try.f12 := fnGet Try.func12
theorem fn13 : E0.fn.get 13 = some Try.f13 := fnGet Try.func13
theorem fn17 : E0.fn.get 17 = some Try.f17 := fnGet Try.func17
theorem res3 : Try.f3.results.toList = [.tmp 4] := rfl
theorem res4 : Try.f4.results.toList = [.tmp 2] := rfl
theorem res5 : Try.f5.results.toList = [.tmp 2] := rfl
theorem res6 : Try.f6.results.toList = [.cell 2 24] := rfl
theorem res7 : Try.f7.results.toList = [.tmp 4] := rfl
theorem res9 : Try.f9.results.toList = [.tmp 6] := rfl
theorem res10 : Try.f10.results.toList = [.tmp 2] := rfl
theorem res11 : Try.f11.results.toList = [.tmp 2] := rfl
theorem res12 : Try.f12.results.toList = [.tmp 6] := rfl
theorem res13 : Try.f13.results.toList = [.tmp 4] := rfl
theorem res17 : Try.f17.results.toList = [.tmp 6] := rfl
attribute [irreducible] E0
end Go.Proofs.Ytdjbahegkilmlaa
