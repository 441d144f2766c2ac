/-
  'lightshiplaw37.CapsMost' answers true, whatever the input, and the input reads as it did. Conditions: none.
-/
import Derived.Test.YtdjbahegkilmlaaRows
import Derived.Test.YtdjbahegkilmlaaTCaps3
import Derived.Test.YtdjbahegkilmlaaCapsRun
import Derived.Test.YtdjbahegkilmlaaCapsClosed
set_option linter.unusedVariables false
set_option linter.unusedSimpArgs false
namespace Go.Proofs.Ytdjbahegkilmlaa
open Go Go.Abs Go.ChangeShapes Go.WideShapes Go.ChangeAt Go.RowKit

theorem own : ownKnob Try.prog.godebug = none := by kernel_rfl
theorem laidOut : laidOutB Try.prog = true := by kernel_rfl
theorem mixed : Try.prog.follows .mixedOrders = true := by kernel_rfl
theorem names : namesOk Try.prog = true := by kernel_rfl
theorem types23 : Try.prog.cellTypes Try.prog.depth 23 = some [3, 3, 3, 3, 3, 3, 3, 3, 3, 3, 3] := by kernel_rfl
theorem types24 : Try.prog.cellTypes Try.prog.depth 24 = some [3, 3, 3, 3, 3, 3] := by kernel_rfl
theorem cells23 : Try.prog.cellsOf 23 = 11 := by kernel_rfl
theorem cells24 : Try.prog.cellsOf 24 = 6 := by kernel_rfl

@[reducible] def noOpq : Opq := Opq.of [] (fun _ h => by cases h)

theorem walk (zs ms : List Int) (hz : zs.length = 11) (hm : ms.length = 6) (W : World) :
    Calls Try.prog 3 #[.agg (zs.map (Value.int .i64)).toArray, .agg (ms.map (Value.int .i64)).toArray] W fun e W' => e = .returned (.bool true) ∧ Below W.heap.size W W' := by
  match zs, hz, ms, hm with
  | [k, r, s, w, bf, q, qn, tb, wk, wr, tm], _, [l0, l1, l2, l3, l4, l5], _ =>
    have hI : @IOk noOpq Try.prog (nOf Try.prog) X.I := @iok_true noOpq Try.prog mixed names _ _ (@noneKnown noOpq _ _) _ _ _ runAwake
    exact @calls_will noOpq Try.prog mixed names X (by unfold X E0; rfl) hI 3 _ _ (law3 k r s w bf q qn tb wk wr tm l0 l1 l2 l3 l4 l5 h0)
      (@VRs.cons noOpq _ _ _ _ _ (@VR.agg noOpq _ _ _ (@VRs_ints noOpq _ .i64 [k, r, s, w, bf, q, qn, tb, wk, wr, tm]))
        (@VRs.cons noOpq _ _ _ _ _ (@VR.agg noOpq _ _ _ (@VRs_ints noOpq _ .i64 [l0, l1, l2, l3, l4, l5])) (@VRs.nil noOpq _))) W

set_option maxRecDepth 100000 in
theorem capsMost_lifted (os : Os) (started : os.Started) (H : Type) (enc : TypeId × Value → H) :
    ReturnsInHanded {} Try.checked os 3 .any (Rows.capsMostSpec.pre6 enc Try.prog Try.f3 Rows.capsMostRow.domain false) (Rows.capsMostSpec.post enc Try.prog Try.f3 false true false false) := by
  refine returnsInHanded_of_change (C := Try.checked) own started (by kernel_rfl) Try.func3
    (ChangeSpec.witness6 (enc := enc) (C := Try.checked) false ⟨#[], #[.agg #[.int .i64 0, .int .i64 0, .int .i64 0, .int .i64 0, .int .i64 0, .int .i64 0, .int .i64 0, .int .i64 0, .int .i64 0, .int .i64 0, .int .i64 0], .agg #[.int .i64 0, .int .i64 0, .int .i64 0, .int .i64 0, .int .i64 0, .int .i64 0]], []⟩ 8 (by kernel_rfl) (by kernel_rfl) (by kernel_rfl) (by kernel_rfl)) ?_
  intro W base args ds gs before hval0 hW _ _
  have hval : ∀ (j : Nat) t v, Try.f3.params[j]? = some t → args[j]? = some v → Value.okWide Try.prog W .any base t v := hval0
  have hW' := hW
  obtain ⟨p, q, hA0, hV, rfl, _, _⟩ := hW'
  have hA : DataW.TrodAll enc Try.prog W 0 (fun _ => true) true Try.f3.params.toList args.toList ds p := hA0
  rw [Try.params3] at hA hval
  obtain ⟨v0, v1, d0, d1, p0, p1, rfl, rfl, rfl, h0, h1⟩ := trodAll_two hA
  obtain ⟨cs, rfl, hn, hc⟩ := okWide_row (.inl ⟨_, Try.underlying23⟩) (hval 0 23 v0 rfl rfl)
  obtain ⟨cs', rfl, hn', hc'⟩ := okWide_row (.inr ⟨_, _, Try.underlying24⟩) (hval 1 24 v1 rfl rfl)
  obtain ⟨zs, hz⟩ := row_ints types23 (fun u hu => by simp at hu; subst hu; exact Try.underlying3) hc
  obtain ⟨ms, hm⟩ := row_ints types24 (fun u hu => by simp at hu; subst hu; exact Try.underlying3) hc'
  obtain ⟨rfl, rfl⟩ := trodVars_none hV
  have e1 : cs = (zs.map (Value.int .i64)).toArray := by rw [← hz]
  have e2 : cs' = (ms.map (Value.int .i64)).toArray := by rw [← hm]
  have l1 : zs.length = 11 := by rw [hz, cells23] at hn; simpa using hn
  have l2 : ms.length = 6 := by rw [hm, cells24] at hn'; simpa using hn'
  refine Calls.mono (R := fun e W' => e = .returned (.bool true) ∧ Below W.heap.size W W') (by rw [e1, e2]; exact walk zs ms l1 l2 W) fun e W' ⟨he, hb⟩ => ?_
  subst he
  exact ⟨_, rfl, post_true laidOut hW rfl (by kernel_rfl) Try.underlying4 rfl (by kernel_rfl) hb⟩

theorem capsMost_holds : Rows.CapsMostSaid :=
  OpenClaim.holds_of_wide 3 Try.f3 rfl rfl rfl rfl rfl rfl rfl ⟨rfl, rfl, rfl, rfl, rfl⟩ rfl rfl rfl rfl rfl named3 Try.func3 closed
    instance3 wrapper3
    (fun os started H enc _ => capsMost_lifted os started H enc)
end Go.Proofs.Ytdjbahegkilmlaa
