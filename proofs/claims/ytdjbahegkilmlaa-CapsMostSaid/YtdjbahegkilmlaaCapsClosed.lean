/-
  The closed facts of the row of capsMost, one by one. Conditions: none.
-/
import Derived.Test.YtdjbahegkilmlaaRows
import Derived.JoinedOf
set_option maxRecDepth 100000
namespace Go.Proofs.Ytdjbahegkilmlaa
open Go

theorem closed0 : (Rows.capsMostRow.wf (OpenSpec.ofChange Rows.capsMostSpec)) = true := by kernel_rfl
theorem closed1 : (laidOutB Try.prog) = true := by kernel_rfl
theorem closed2 : (mapsRowed Try.prog) = true := by kernel_rfl
theorem closed3 : (Try.f3.params.all (Try.prog.readableRec ·)) = true := by kernel_rfl
theorem closed4 : (namedTie Try.prog Rows.capsMostRow.named Rows.capsMostSpec.vars) = true := by kernel_rfl
theorem closed5 : ((Rows.capsMostRow.stops == [])) = true := by kernel_rfl
theorem closed6 : ((Try.prog.stops == [])) = true := by kernel_rfl
theorem closed7 : ((Rows.capsMostRow.knobs == [])) = true := by kernel_rfl
theorem closed8 : ((Try.prog.stopKnobs == [])) = true := by kernel_rfl
theorem closed9 : ((Rows.capsMostRow.inPlace == Try.prog.inPlace 3)) = true := by kernel_rfl
theorem closed10 : ((Rows.capsMostRow.unfollowed == Try.prog.unfollowed 3)) = true := by kernel_rfl
theorem closed11 : ((Rows.capsMostRow.recurses == Try.prog.recurses 3)) = true := by kernel_rfl
theorem closed12 : ((Rows.capsMostRow.named == Try.prog.varsNamed 3)) = true := by kernel_rfl
theorem closed13 : ((Rows.capsMostRow.maps == (Try.f3.params.toList ++ Rows.capsMostSpec.plain.varTypes Try.prog).any (Try.prog.mapsRec ·))) = true := by kernel_rfl
theorem closed14 : ((Rows.capsMostRow.ifaces == (Try.f3.params.toList ++ Rows.capsMostSpec.plain.varTypes Try.prog).any (Try.prog.ifacesRec ·))) = true := by kernel_rfl
theorem closed15 : ((Rows.capsMostRow.mapsOut == Try.prog.mapsAmong Try.f3.resultTypes.toList)) = true := by kernel_rfl
theorem closed16 : ((Rows.capsMostRow.loops == (Try.f3.params.toList ++ Rows.capsMostSpec.plain.varTypes Try.prog).any (Try.prog.loopsFrom ·))) = true := by kernel_rfl
theorem closed17 : ((Rows.capsMostRow.wideKeys == (Try.f3.params.toList ++ Rows.capsMostSpec.plain.varTypes Try.prog ++ Try.f3.resultTypes.toList).any (Try.prog.wideKeysFrom ·))) = true := by kernel_rfl
theorem closed18 : (Rows.capsMostSpec.vars.all (Try.prog.varReadable ·)) = true := by kernel_rfl
theorem closed19 : (Try.f3.resultTypes.all (fun t => Try.prog.readableRec t && decide (t < Try.prog.types.size))) = true := by kernel_rfl
theorem closed20 : ((Rows.capsMostRow.ifacesOut == Try.f3.resultTypes.toList.any (Try.prog.ifacesRec ·))) = true := by kernel_rfl
theorem closed21 : ((Rows.capsMostRow.loopsOut == Try.f3.resultTypes.toList.any (Try.prog.loopsFrom ·))) = true := by kernel_rfl
theorem closed22 : ((Rows.capsMostRow.plainKeys == Try.prog.plainKeys)) = true := by kernel_rfl
theorem closed23 : (Rows.capsMostRow.shortTexts.isNone) = true := by kernel_rfl
theorem closed24 : (Try.prog.stopsHeard) = true := by kernel_rfl
theorem closed25 : (Try.prog.mayEnter) = true := by kernel_rfl
theorem closed26 : ((Rows.capsMostRow.lifted == Try.prog.liftsFinal)) = true := by kernel_rfl
theorem closed27 : ((Try.prog.make == some Rows.capsMostRow.make)) = true := by kernel_rfl
theorem closed28 : ((Rows.capsMostRow.kinds == (if Rows.capsMostRow.domain.isEmpty then [] else Try.f3.params.toList.map fun t => match Try.prog.underlying t with | some (.int k) => some k | _ => none))) = true := by kernel_rfl
theorem closed29 : ((Rows.capsMostRow.pinned == Rows.capsMostRow.pinnedBy)) = true := by kernel_rfl
theorem closed30 : ((Rows.capsMostRow.veiled == (Try.f3.params.toList ++ Rows.capsMostSpec.plain.varTypes Try.prog ++ Try.f3.resultTypes.toList).any (Try.prog.veiledRec ·))) = true := by kernel_rfl
theorem closed31 : (Rows.capsMostRow.veiledFits Try.prog Try.f3.params.toList (Try.f3.params.toList ++ Rows.capsMostSpec.plain.varTypes Try.prog ++ Try.f3.resultTypes.toList)) = true := by kernel_rfl
theorem both {a b : Bool} (ha : a = true) (hb : b = true) : (a && b) = true := by rw [ha, hb]; rfl
theorem closed : joinedFacts Try.prog 3 Try.f3 Rows.capsMostSpec Rows.capsMostRow = true := by
  unfold joinedFacts
  exact both (both (both (both (both (both (both (both (both (both (both (both (both (both (both (both (both (both (both (both (both (both (both (both (both (both (both (both (both (both (both (closed0) closed1) closed2) closed3) closed4) closed5) closed6) closed7) closed8) closed9) closed10) closed11) closed12) closed13) closed14) closed15) closed16) closed17) closed18) closed19) closed20) closed21) closed22) closed23) closed24) closed25) closed26) closed27) closed28) closed29) closed30) closed31
theorem named3 : Try.prog.funcNamed Rows.capsMostRow.func = some 3 := by kernel_rfl
theorem instance3 : Try.f3.isInstance Try.prog Rows.capsMostRow.origin Rows.capsMostRow.targs := of_decide_eq_true (by kernel_rfl)
theorem wrapper3 : Try.f3.isWrapper Try.prog Rows.capsMostRow.wrapper Rows.capsMostRow.mainSum := by
  unfold Func.isWrapper; first | (rw [if_pos (by decide +kernel)]; kernel_rfl) | (rw [if_neg (by decide +kernel)]; exact ⟨rfl, rfl⟩)
end Go.Proofs.Ytdjbahegkilmlaa
