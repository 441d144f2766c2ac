/-
  The run of 'lightshiplaw37.awake' on the abstract machine. Conditions: none.
-/
import Derived.Test.YtdjbahegkilmlaaProg
import Derived.Test.YtdjbahegkilmlaaAbsI
namespace Go.Proofs.Ytdjbahegkilmlaa
open Go Go.Abs

/-- the first slots of each function that may be dropped behind a region -/
noncomputable def firsts : PT Nat := PT.ofList .lf 0 [1, 1, 1, 9, 4, 3, 4, 6, 4, 7, 4, 3, 11, 5, 1, 13, 9, 7, 6, 4, 6, 1, 1, 4, 26, 4, 5, 15, 3, 3, 3, 3, 3, 3, 3, 1, 1, 1, 3, 1, 3, 1, 1, 10, 1, 2, 5, 1, 1, 1, 1, 3, 1, 3, 1, 1, 1, 1, 1, 1, 1, 1, 1, 1, 1, 1, 1, 1, 1, 1, 1, 1, 1, 2, 1, 1, 2, 1, 1, 1, 1, 1, 1, 1, 2, 1, 1]

theorem runAwake : isTrue (callsA (mkEnv Try.prog) (fun f => (firsts.get f).getD 0) (fun _ => none) 100000000 100 (.fn 8 []) h0) = true := by
  kernel_rfl
end Go.Proofs.Ytdjbahegkilmlaa
