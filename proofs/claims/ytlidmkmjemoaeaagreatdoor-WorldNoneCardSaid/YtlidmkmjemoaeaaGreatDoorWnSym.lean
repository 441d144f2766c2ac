/-
  The equations of the operations of some functions of the program. Conditions: none.
-/
import Derived.Test.YtlidmkmjemoaeaaGreatDoorProg
import Derived.Test.YtlidmkmjemoaeaaGreatDoorAbsV
set_option linter.unusedVariables false
namespace Go.Proofs.YtlidmkmjemoaeaaGreatDoor
open Go Go.Abs

noncomputable def E0 : Env := mkEnv Tryz.prog
section
variable {h : AHeap} {b o n : Nat} {v : AV} {r : RowI}

theorem len92 {len : Nat} {c : Option Nat} : builtA E0 h .len #[92] [.slice b o len c] = some (.val (.int .i64 (len : Int))) := lenSl (by kernel_rfl)
theorem lenNil92 : builtA E0 h .len #[92] [.nilSlice] = some (.val (.int .i64 0)) := lenNil (by kernel_rfl)
theorem lenZ92 : builtA E0 h .len #[92] [.slice0 b] = some (.val (.int .i64 0)) := lenZero (by kernel_rfl)
theorem noMap92 : isMap E0 92 = false := by kernel_rfl
theorem clLen92 {xs : Array Operand} : cls E0 (.call { callee := .builtin .len, args := xs, argTypes := #[92] }) = .pure := cls_len rfl noMap92
end
theorem fn111 : E0.fn.get 111 = some Tryz.f111 := fnGet Tryz.func111
theorem res111 : Tryz.f111.results.toList = [.tmp 6] := rfl
attribute [irreducible] E0
end Go.Proofs.YtlidmkmjemoaeaaGreatDoor
