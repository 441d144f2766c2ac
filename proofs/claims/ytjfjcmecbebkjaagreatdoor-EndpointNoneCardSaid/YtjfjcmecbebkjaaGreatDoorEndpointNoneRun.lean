/-
  The run of 'lightshiplaw30.EndpointNone' on the abstract machine. Conditions: none.
-/
import Derived.Test.YtjfjcmecbebkjaaGreatDoorProg
import Derived.Test.YtjfjcmecbebkjaaGreatDoorAbsI
namespace Go.Proofs.YtjfjcmecbebkjaaGreatDoor
open Go Go.Abs

/-- the first slots of each function that may be dropped behind a region -/
noncomputable def firsts : PT Nat := PT.ofList .lf 0 [1, 1, 1, 8, 5, 13, 10, 10, 9, 18, 5, 3, 3, 15, 3, 23, 5, 6, 5, 5, 11, 8, 6, 10, 10, 3, 10, 14, 9, 5, 1, 6, 3, 8, 23, 9, 4, 58, 13, 3, 3, 3, 3, 3, 6, 1, 30, 2, 11, 6, 5, 23, 6, 3, 3, 15, 6, 23, 2, 8, 6, 8, 10, 3, 10, 3, 8, 5, 3, 3, 8, 8, 6, 7, 5, 7, 10, 7, 6, 3, 19, 13, 6, 10, 3, 6, 5, 5, 3, 7, 2, 24, 13, 6, 3, 3, 7, 5, 6, 3, 5, 5, 3, 1, 1, 4, 1, 1, 4, 26, 4, 8, 1, 1, 1, 1, 3, 12, 11, 3, 8, 9, 11, 11, 5, 6, 8, 3, 5, 12, 12, 8, 8, 3, 6, 6, 4, 6, 4, 7, 9, 3, 8, 8, 31, 6, 13, 16, 5, 6, 9, 6, 78, 3, 6, 6, 2, 63, 1, 7, 8, 5, 7, 3, 3, 4, 5, 6, 5, 5, 15, 1, 21, 3, 9, 7, 1, 3, 7, 5, 3, 3, 2, 4, 3, 3, 3, 2, 4, 3, 3, 2, 4, 3, 3, 2, 11, 3, 4, 9, 8, 3, 7, 3, 7, 7, 3, 5, 3, 5, 7, 13, 11, 3, 3, 4, 4, 3, 6, 5, 9, 11, 5, 19, 4, 8, 4, 9, 4, 1, 46, 15, 14, 8, 8, 12, 5, 16, 5, 4, 66, 7, 10, 8, 4, 10, 13, 13, 56, 10, 13, 13, 14, 3, 3, 3, 1, 3, 1, 1, 10, 1, 2, 5, 3, 8, 6, 6, 33, 8, 4, 4, 4, 4, 7, 3, 9, 4, 13, 9, 5, 17, 6, 9, 18, 13, 12, 12, 27, 9, 2, 6, 3, 5, 5, 6, 5, 5, 7, 7, 12, 3, 3, 9, 13, 1, 1, 1, 1, 3, 1, 3, 6, 7, 6, 6, 7, 11, 3, 9, 4, 12, 3, 9, 4, 48, 24, 1, 5, 5, 4, 5, 7, 12, 9, 43, 27, 3, 12, 5, 10, 3, 10, 7, 1, 1, 13, 177, 3, 10, 5, 3, 2, 2, 5, 3, 3, 2, 7, 14, 5, 2, 5, 4, 2, 1, 1, 1, 1, 1, 1, 1, 1, 1, 1, 1, 1, 1, 1, 1, 1, 1, 1, 1, 1, 1, 1, 1, 1, 1, 2, 1, 1, 2, 1, 1, 1, 1, 1, 1, 1, 1, 1, 1, 1, 1, 1, 1, 1, 1, 1, 1, 1]

/-- The law's run on the abstract machine, whatever the argument's parts. -/
theorem run : isTrue (callsA (mkEnv Tryz.prog) (fun f => (firsts.get f).getD 0) (fun _ => none) 100000000 100 (.fn 3 [.agg (opqs 0 17)]) h0) = true := by
  kernel_rfl
end Go.Proofs.YtjfjcmecbebkjaaGreatDoor
