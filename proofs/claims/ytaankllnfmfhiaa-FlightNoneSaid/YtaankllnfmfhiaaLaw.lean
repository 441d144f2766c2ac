/-
  'lightshiplaw22.FlightNone' answers true, whatever the input, and the input reads as it did. Conditions: none.
-/
import Derived.Test.YtaankllnfmfhiaaRows
import Derived.Test.YtaankllnfmfhiaaAbsH
set_option linter.unusedVariables false
set_option linter.unusedSimpArgs false
namespace Go.Proofs.Ytaankllnfmfhiaa
open Go Go.Abs Go.ChangeShapes Go.WideShapes Go.ChangeAt Go.RowKit

theorem own : ownKnob Try.prog.godebug = none := by kernel_rfl
theorem laidOut : laidOutB Try.prog = true := by kernel_rfl
theorem mixed : Try.prog.follows .mixedOrders = true := by kernel_rfl
theorem names : namesOk Try.prog = true := by kernel_rfl

/-- the first slots of each function that may be dropped behind a region -/
noncomputable def firsts : PT Nat := PT.ofList .lf 0 [1, 1, 1, 9, 11, 8, 6, 31, 24, 3, 3, 3, 18, 3, 5, 5, 6, 9, 11, 3, 6, 7, 6, 6, 8, 5, 7, 3, 10, 1, 7, 4, 1, 1, 1, 1, 1, 1, 1, 1, 1, 1, 1, 1, 1, 1, 1, 1]

/-- The law's run on the abstract machine, whatever the deed. -/
theorem run (a b c d : Int) (s t : List UInt8) : isTrue (callsA (mkEnv Try.prog) (fun f => (firsts.get f).getD 0) (fun _ => none) 50 (.fn 3 [.agg [.int .i64 a, .str s, .int .i64 b, .int .i64 c, .int .u32 d, .str t]]) h0) = true := by
  kernel_rfl

theorem cells3 : Try.prog.cellsOf 3 = 1 := by kernel_rfl
theorem cells9 : Try.prog.cellsOf 9 = 1 := by kernel_rfl
theorem cells22 : Try.prog.cellsOf 22 = 1 := by kernel_rfl
theorem cells24 : Try.prog.cellsOf 24 = 6 := by kernel_rfl

/-- A deed, by its cells. -/
theorem deed {H : Type} {enc : TypeId × Value → H} {W : World} {base b0 : Nat} {sp : Nat → Bool} {held : Bool} {r : Reach} {v : Value} {x : DataW H} {p : List MemPlace} (hv : Value.okWide Try.prog W r b0 24 v) (h : DataW.Trod enc Try.prog W base sp held 24 v x p) :
    ∃ (a b c d : Int) (s t : ByteArray), v = .agg #[.int .i64 a, .string s, .int .i64 b, .int .i64 c, .int .u32 d, .string t] := by
  obtain ⟨cs, rfl, hsz⟩ := okWide_struct Try.underlying24 hv
  obtain ⟨l⟩ := cs
  obtain ⟨fuel, hf⟩ := h
  obtain ⟨xs, n, _, _, _, hlen, hg⟩ := DataW.trod_struct Try.underlying24 hf
  match l, hsz.trans cells24 with
  | [c0, c1, c2, c3, c4, c5], _ =>
    match xs, hlen with
    | [y0, y1, y2, y3, y4, y5], _ =>
      have g0 := hg 0 _ rfl
      have g1 := hg 1 _ rfl
      have g2 := hg 2 _ rfl
      have g3 := hg 3 _ rfl
      have g4 := hg 4 _ rfl
      have g5 := hg 5 _ rfl
      simp only [cells3, cells9, cells22, Value.cells, List.drop_zero, List.take_succ_cons, List.take_zero, List.drop_succ_cons, List.getElem?_cons_zero, List.getElem?_cons_succ] at g0 g1 g2 g3 g4 g5
      obtain ⟨a, e0, _⟩ := DataW.trod_int Try.underlying3 g0
      obtain ⟨s, e1, _⟩ := DataW.trod_string Try.underlying9 g1
      obtain ⟨b, e2, _⟩ := DataW.trod_int Try.underlying3 g2
      obtain ⟨c, e3, _⟩ := DataW.trod_int Try.underlying3 g3
      obtain ⟨d, e4, _⟩ := DataW.trod_int Try.underlying22 g4
      obtain ⟨t, e5, _⟩ := DataW.trod_string Try.underlying9 g5
      cases e0; cases e1; cases e2; cases e3; cases e4; cases e5
      exact ⟨a, b, c, d, s, t, rfl⟩

theorem walk (a b c d : Int) (s t : ByteArray) (W : World) :
    Calls Try.prog 3 #[.agg #[.int .i64 a, .string s, .int .i64 b, .int .i64 c, .int .u32 d, .string t]] W fun e W' => e = .returned (.bool true) ∧ Below W.heap.size W W' :=
  calls_true mixed names (noneKnown _ _) (run a b c d s.data.toList t.data.toList)
    (.cons _ _ _ _ (.agg _ _ (.cons _ _ _ _ (.int _ _) (.cons _ _ _ _ (.str _ _ rfl) (.cons _ _ _ _ (.int _ _) (.cons _ _ _ _ (.int _ _) (.cons _ _ _ _ (.int _ _) (.cons _ _ _ _ (.str _ _ rfl) .nil))))))) .nil) W

set_option maxRecDepth 100000 in
theorem flightNone_lifted (os : Os) (started : os.Started) (H : Type) (enc : TypeId × Value → H) :
    ReturnsInHanded {} Try.checked os 3 .any (Rows.flightNoneSpec.pre6 enc Try.prog Try.f3 Rows.flightNoneRow.domain false) (Rows.flightNoneSpec.post enc Try.prog Try.f3 false true false false) := by
  refine returnsInHanded_of_change (C := Try.checked) own started (by kernel_rfl) Try.func3
    (ChangeSpec.witness6 (enc := enc) (C := Try.checked) false ⟨#[], #[.agg #[.int .i64 0, .string .empty, .int .i64 0, .int .i64 0, .int .u32 0, .string .empty]], []⟩ 8 (by kernel_rfl) (by kernel_rfl) (by kernel_rfl) (by kernel_rfl)) ?_
  intro W base args ds gs before hval0 hW _ _
  have hval : ∀ (j : Nat) t v, Try.f3.params[j]? = some t → args[j]? = some v → Value.okWide Try.prog W .any base t v := hval0
  have hW' := hW
  obtain ⟨p, q, hA0, hV, rfl, _, _⟩ := hW'
  have hA : DataW.TrodAll enc Try.prog W 0 (fun _ => true) true Try.f3.params.toList args.toList ds p := hA0
  rw [Try.params3] at hA hval
  obtain ⟨v0, d0, rfl, rfl, h0⟩ := trodAll_one hA
  obtain ⟨a, b, c, d, s, t, rfl⟩ := deed (hval 0 24 v0 rfl rfl) h0
  obtain ⟨rfl, rfl⟩ := trodVars_none hV
  refine (walk a b c d s t W).mono fun e W' ⟨he, hb⟩ => ?_
  subst he
  exact ⟨_, rfl, post_true laidOut hW rfl (by kernel_rfl) Try.underlying4 rfl (by kernel_rfl) hb⟩

theorem flightNone_holds : Rows.FlightNoneSaid :=
  OpenClaim.holds_of_wide 3 Try.f3 rfl rfl rfl rfl rfl rfl rfl ⟨rfl, rfl, rfl, rfl, rfl⟩ rfl rfl rfl rfl rfl (by kernel_rfl) Try.func3 (by kernel_rfl)
    (of_decide_eq_true (by kernel_rfl)) (by unfold Func.isWrapper; first | (rw [if_pos (by decide +kernel)]; kernel_rfl) | (rw [if_neg (by decide +kernel)]; exact ⟨rfl, rfl⟩))
    (fun os started H enc _ => flightNone_lifted os started H enc)
end Go.Proofs.Ytaankllnfmfhiaa
