/-
  The run of 'lightshiplaw32.WorldNone' on the abstract machine. Conditions: none.
-/
import Derived.Test.YtlidmkmjemoaeaaGreatDoorProg
import Derived.Test.YtlidmkmjemoaeaaGreatDoorAbsK
namespace Go.Proofs.YtlidmkmjemoaeaaGreatDoor
open Go Go.Abs

/-- the first slots of each function that may be dropped behind a region -/
noncomputable def firsts : PT Nat := PT.ofList .lf 0 [1, 1, 1, 4, 13, 6, 3, 22, 21, 6, 8, 6, 6, 3, 14, 24, 65, 5, 16, 3, 3, 5, 3, 15, 13, 1, 8, 7, 3, 9, 18, 8, 5, 20, 5, 13, 5, 3, 3, 3, 3, 3, 6, 4, 10, 13, 5, 5, 1, 6, 3, 8, 14, 10, 23, 9, 4, 58, 10, 10, 6, 9, 5, 5, 3, 3, 1, 1, 4, 1, 1, 4, 26, 4, 8, 6, 5, 6, 5, 11, 6, 10, 3, 6, 5, 5, 3, 7, 2, 5, 7, 2, 8, 6, 8, 10, 3, 10, 24, 13, 6, 3, 7, 5, 6, 3, 10, 3, 10, 9, 5, 8, 21, 3, 9, 7, 1, 3, 3, 7, 3, 15, 6, 23, 2, 11, 6, 5, 23, 6, 3, 3, 6, 6, 2, 63, 1, 7, 6, 8, 5, 7, 3, 9, 3, 6, 6, 8, 3, 5, 12, 12, 3, 3, 4, 5, 6, 5, 5, 15, 1, 3, 8, 5, 3, 3, 8, 8, 7, 10, 7, 6, 19, 13, 10, 13, 13, 56, 10, 13, 13, 14, 3, 3, 3, 1, 3, 1, 1, 10, 1, 2, 5, 11, 3, 8, 9, 11, 11, 5, 8, 1, 1, 1, 1, 3, 12, 1, 46, 15, 14, 8, 8, 12, 5, 16, 5, 4, 66, 7, 5, 4, 7, 3, 7, 7, 7, 3, 5, 3, 5, 7, 13, 11, 10, 8, 4, 8, 8, 6, 6, 4, 6, 4, 8, 8, 31, 13, 16, 5, 6, 9, 6, 78, 12, 3, 3, 9, 13, 1, 1, 1, 1, 3, 1, 3, 3, 4, 9, 8, 3, 5, 3, 3, 2, 4, 3, 3, 3, 2, 4, 3, 3, 2, 4, 3, 3, 2, 11, 9, 5, 17, 6, 9, 18, 13, 12, 12, 27, 9, 2, 6, 3, 5, 5, 6, 5, 5, 7, 7, 8, 6, 4, 6, 33, 8, 3, 3, 3, 6, 5, 9, 11, 19, 4, 8, 4, 9, 4, 12, 3, 12, 3, 9, 4, 48, 24, 1, 5, 5, 4, 5, 7, 6, 4, 4, 4, 4, 7, 6, 6, 7, 7, 3, 9, 4, 13, 10, 7, 1, 1, 13, 177, 3, 11, 3, 9, 43, 27, 9, 4, 5, 3, 3, 2, 10, 5, 3, 3, 12, 5, 10, 3, 5, 7, 14, 5, 2, 2, 2, 2, 4, 1, 1, 1, 1, 1, 1, 1, 1, 1, 1, 1, 1, 1, 1, 1, 1, 1, 1, 1, 1, 1, 1, 1, 1, 2, 1, 1, 2, 1, 1, 1, 1, 1, 1, 1, 1, 1, 1, 1, 1, 1, 1, 1, 1, 1, 1, 1, 1]

/-- The law's run on the abstract machine, whatever the argument's parts. -/
theorem run [Opq] : isTrue (callsA (mkEnv Tryz.prog) (fun f => (firsts.get f).getD 0) (knownDel 111 (.str [])) 100000000 100 (.fn 3 [.agg (opqs 0 8)]) h0) = true := by
  kernel_rfl
end Go.Proofs.YtlidmkmjemoaeaaGreatDoor
