/-
  The closed facts of the row of worldNone, one by one. Conditions: none.
-/
import Derived.Test.YtlidmkmjemoaeaaGreatDoorRows
import Derived.JoinedOf
set_option maxRecDepth 100000
namespace Go.Proofs.YtlidmkmjemoaeaaGreatDoor
open Go

theorem closed0 : (Rows.worldNoneRow.wf (OpenSpec.ofChange Rows.worldNoneSpec)) = true := by kernel_rfl
theorem closed1 : (laidOutB Tryz.prog) = true := by kernel_rfl
theorem closed2 : (mapsRowed Tryz.prog) = true := by kernel_rfl
theorem closed3 : (Tryz.f3.params.all (Tryz.prog.readableRec ·)) = true := by kernel_rfl
theorem closed4 : (namedTie Tryz.prog Rows.worldNoneRow.named Rows.worldNoneSpec.vars) = true := by kernel_rfl
theorem closed5 : ((Rows.worldNoneRow.stops == [])) = true := by kernel_rfl
theorem closed6 : ((Tryz.prog.stops == [])) = true := by kernel_rfl
theorem closed7 : ((Rows.worldNoneRow.knobs == [])) = true := by kernel_rfl
theorem closed8 : ((Tryz.prog.stopKnobs == [])) = true := by kernel_rfl
theorem closed9 : ((Rows.worldNoneRow.inPlace == Tryz.prog.inPlace 3)) = true := by kernel_rfl
theorem closed10 : ((Rows.worldNoneRow.unfollowed == Tryz.prog.unfollowed 3)) = true := by kernel_rfl
theorem closed11 : ((Rows.worldNoneRow.recurses == Tryz.prog.recurses 3)) = true := by kernel_rfl
theorem closed12 : ((Rows.worldNoneRow.named == Tryz.prog.varsNamed 3)) = true := by kernel_rfl
theorem closed13 : ((Rows.worldNoneRow.maps == (Tryz.f3.params.toList ++ Rows.worldNoneSpec.plain.varTypes Tryz.prog).any (Tryz.prog.mapsRec ·))) = true := by kernel_rfl
theorem closed14 : ((Rows.worldNoneRow.ifaces == (Tryz.f3.params.toList ++ Rows.worldNoneSpec.plain.varTypes Tryz.prog).any (Tryz.prog.ifacesRec ·))) = true := by kernel_rfl
theorem closed15 : ((Rows.worldNoneRow.mapsOut == Tryz.prog.mapsAmong Tryz.f3.resultTypes.toList)) = true := by kernel_rfl
theorem closed16 : ((Rows.worldNoneRow.loops == (Tryz.f3.params.toList ++ Rows.worldNoneSpec.plain.varTypes Tryz.prog).any (Tryz.prog.loopsFrom ·))) = true := by kernel_rfl
theorem closed17 : ((Rows.worldNoneRow.wideKeys == (Tryz.f3.params.toList ++ Rows.worldNoneSpec.plain.varTypes Tryz.prog ++ Tryz.f3.resultTypes.toList).any (Tryz.prog.wideKeysFrom ·))) = true := by kernel_rfl
theorem closed18 : (Rows.worldNoneSpec.vars.all (Tryz.prog.varReadable ·)) = true := by kernel_rfl
theorem closed19 : (Tryz.f3.resultTypes.all (fun t => Tryz.prog.readableRec t && decide (t < Tryz.prog.types.size))) = true := by kernel_rfl
theorem closed20 : ((Rows.worldNoneRow.ifacesOut == Tryz.f3.resultTypes.toList.any (Tryz.prog.ifacesRec ·))) = true := by kernel_rfl
theorem closed21 : ((Rows.worldNoneRow.loopsOut == Tryz.f3.resultTypes.toList.any (Tryz.prog.loopsFrom ·))) = true := by kernel_rfl
theorem closed22 : ((Rows.worldNoneRow.plainKeys == Tryz.prog.plainKeys)) = true := by kernel_rfl
theorem closed23 : (Rows.worldNoneRow.shortTexts.isNone) = true := by kernel_rfl
theorem closed24 : (Tryz.prog.stopsHeard) = true := by kernel_rfl
theorem closed25 : (Tryz.prog.mayEnter) = true := by kernel_rfl
theorem closed26 : ((Rows.worldNoneRow.lifted == Tryz.prog.liftsFinal)) = true := by kernel_rfl
theorem closed27 : ((Tryz.prog.make == some Rows.worldNoneRow.make)) = true := by kernel_rfl
theorem closed28 : ((Rows.worldNoneRow.kinds == (if Rows.worldNoneRow.domain.isEmpty then [] else Tryz.f3.params.toList.map fun t => match Tryz.prog.underlying t with | some (.int k) => some k | _ => none))) = true := by kernel_rfl
theorem closed29 : ((Rows.worldNoneRow.pinned == Rows.worldNoneRow.pinnedBy)) = true := by kernel_rfl
theorem closed30 : ((Rows.worldNoneRow.veiled == (Tryz.f3.params.toList ++ Rows.worldNoneSpec.plain.varTypes Tryz.prog ++ Tryz.f3.resultTypes.toList).any (Tryz.prog.veiledRec ·))) = true := by kernel_rfl
theorem closed31 : (Rows.worldNoneRow.veiledFits Tryz.prog Tryz.f3.params.toList (Tryz.f3.params.toList ++ Rows.worldNoneSpec.plain.varTypes Tryz.prog ++ Tryz.f3.resultTypes.toList)) = true := by kernel_rfl
theorem both {a b : Bool} (ha : a = true) (hb : b = true) : (a && b) = true := by rw [ha, hb]; rfl
theorem closed : joinedFacts Tryz.prog 3 Tryz.f3 Rows.worldNoneSpec Rows.worldNoneRow = true := by
  unfold joinedFacts
  exact both (both (both (both (both (both (both (both (both (both (both (both (both (both (both (both (both (both (both (both (both (both (both (both (both (both (both (both (both (both (both (closed0) closed1) closed2) closed3) closed4) closed5) closed6) closed7) closed8) closed9) closed10) closed11) closed12) closed13) closed14) closed15) closed16) closed17) closed18) closed19) closed20) closed21) closed22) closed23) closed24) closed25) closed26) closed27) closed28) closed29) closed30) closed31
theorem named3 : Tryz.prog.funcNamed Rows.worldNoneRow.func = some 3 := by kernel_rfl
theorem instance3 : Tryz.f3.isInstance Tryz.prog Rows.worldNoneRow.origin Rows.worldNoneRow.targs := of_decide_eq_true (by kernel_rfl)
theorem wrapper3 : Tryz.f3.isWrapper Tryz.prog Rows.worldNoneRow.wrapper Rows.worldNoneRow.mainSum := by
  unfold Func.isWrapper; first | (rw [if_pos (by decide +kernel)]; kernel_rfl) | (rw [if_neg (by decide +kernel)]; exact ⟨rfl, rfl⟩)
end Go.Proofs.YtlidmkmjemoaeaaGreatDoor
