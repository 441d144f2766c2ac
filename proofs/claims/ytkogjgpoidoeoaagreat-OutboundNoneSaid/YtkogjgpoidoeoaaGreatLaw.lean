/-
  'lightshiplaw27.OutboundNone' answers true, whatever the input, and the input reads as it did. Conditions: none.
-/
import Derived.Test.YtkogjgpoidoeoaaGreatRows
import Derived.Test.YtkogjgpoidoeoaaGreatAbsI
set_option linter.unusedVariables false
set_option linter.unusedSimpArgs false
namespace Go.Proofs.YtkogjgpoidoeoaaGreat
open Go Go.Abs Go.ChangeShapes Go.WideShapes Go.ChangeAt Go.RowKit

theorem own : ownKnob Tryz.prog.godebug = none := by kernel_rfl
theorem laidOut : laidOutB Tryz.prog = true := by kernel_rfl
theorem mixed : Tryz.prog.follows .mixedOrders = true := by kernel_rfl
theorem names : namesOk Tryz.prog = true := by kernel_rfl

/-- the first slots of each function that may be dropped behind a region -/
noncomputable def firsts : PT Nat := PT.ofList .lf 0 [1, 1, 1, 8, 5, 4, 5, 3, 8, 7, 23, 10, 3, 3, 3, 18, 11, 3, 3, 5, 12, 13, 12, 31, 24, 8, 5, 8, 3, 8, 1, 7, 8, 3, 7, 3, 5, 7, 13, 11, 4, 5, 9, 11, 3, 3, 3, 6, 6, 3, 5, 3, 4, 8, 3, 6, 6, 4, 1, 7, 6, 6, 33, 8, 11, 8, 7, 3, 10, 5, 7, 4, 6, 7, 6, 6, 12, 7, 9, 16, 6, 5, 23, 6, 3, 4, 9, 43, 27, 5, 12, 27, 1, 1, 1, 1, 3, 12, 10, 5, 2, 6, 3, 3, 10, 24, 3, 3, 2, 8, 5, 3, 4, 3, 3, 3, 2, 4, 3, 3, 2, 4, 3, 3, 2, 11, 7, 14, 5, 1, 5, 7, 8, 1, 1, 1, 1, 1, 1, 1, 1, 1, 1, 1, 1, 1, 1, 1, 1, 1, 1, 1, 1, 1, 1]

/-- The law's run on the abstract machine, whatever the deed's parts. -/
theorem run : isTrue (callsA (mkEnv Tryz.prog) (fun f => (firsts.get f).getD 0) (fun _ => none) 50 (.fn 3 [.agg (opqs 0 5)]) h0) = true := by
  kernel_rfl

theorem cellsDeed : Tryz.prog.cellsOf 24 = 5 := by kernel_rfl

set_option maxRecDepth 100000 in
/-- A deed, by its cells. -/
theorem deed {H : Type} {enc : TypeId × Value → H} {W : World} {base b0 : Nat} {sp : Nat → Bool} {held : Bool} {r : Reach} {v : Value} {x : DataW H} {p : List MemPlace} (hv : Value.okWide Tryz.prog W r b0 24 v) (h : DataW.Trod enc Tryz.prog W base sp held 24 v x p) :
    ∃ (a b c : Int) (s t : ByteArray), v = .agg #[.int .i64 a, .string s, .int .i64 b, .int .u32 c, .string t] := by
  obtain ⟨cs, rfl, hsz⟩ := okWide_struct Tryz.underlying24 hv
  obtain ⟨l⟩ := cs
  obtain ⟨fuel, hf⟩ := h
  obtain ⟨xs, n, _, _, _, hlen, hg⟩ := DataW.trod_struct Tryz.underlying24 hf
  match l, hsz.trans cellsDeed with
  | [c0, c1, c2, c3, c4], _ =>
    match xs, hlen with
    | [y0, y1, y2, y3, y4], _ =>
      have g0 := hg 0 _ rfl
      have g1 := hg 1 _ rfl
      have g2 := hg 2 _ rfl
      have g3 := hg 3 _ rfl
      have g4 := hg 4 _ rfl
      simp only [Value.cells, List.getElem?_cons_zero, List.getElem?_cons_succ] at g0 g1 g2 g3 g4
      obtain ⟨a, e0, _⟩ := DataW.trod_int Tryz.underlying3 g0
      obtain ⟨s, e1, _⟩ := DataW.trod_string Tryz.underlying9 g1
      obtain ⟨b, e2, _⟩ := DataW.trod_int Tryz.underlying3 g2
      obtain ⟨c, e3, _⟩ := DataW.trod_int Tryz.underlying22 g3
      obtain ⟨t, e4, _⟩ := DataW.trod_string Tryz.underlying9 g4
      cases e0; cases e1; cases e2; cases e3; cases e4
      exact ⟨a, b, c, s, t, rfl⟩

theorem walk (a b c : Int) (s t : ByteArray) (W : World) :
    Calls Tryz.prog 3 #[.agg #[.int .i64 a, .string s, .int .i64 b, .int .u32 c, .string t]] W fun e W' => e = .returned (.bool true) ∧ Below W.heap.size W W' :=
  calls_opq mixed names [.int .i64 a, .string s, .int .i64 b, .int .u32 c, .string t] (fun v hv => by simp at hv; rcases hv with rfl | rfl | rfl | rfl | rfl <;> rfl) run W

set_option maxRecDepth 100000 in
theorem outboundNone_lifted (os : Os) (started : os.Started) (H : Type) (enc : TypeId × Value → H) :
    ReturnsInHanded {} Tryz.checked os 3 .any (Rows.outboundNoneSpec.pre6 enc Tryz.prog Tryz.f3 Rows.outboundNoneRow.domain false) (Rows.outboundNoneSpec.post enc Tryz.prog Tryz.f3 false true false false) := by
  refine returnsInHanded_of_change (C := Tryz.checked) own started (by kernel_rfl) Tryz.func3
    (ChangeSpec.witness6 (enc := enc) (C := Tryz.checked) false ⟨#[], #[.agg #[.int .i64 0, .string .empty, .int .i64 0, .int .u32 0, .string .empty]], []⟩ 8 (by kernel_rfl) (by kernel_rfl) (by kernel_rfl) (by kernel_rfl)) ?_
  intro W base args ds gs before hval0 hW _ _
  have hval : ∀ (j : Nat) t v, Tryz.f3.params[j]? = some t → args[j]? = some v → Value.okWide Tryz.prog W .any base t v := hval0
  have hW' := hW
  obtain ⟨p, q, hA0, hV, rfl, _, _⟩ := hW'
  have hA : DataW.TrodAll enc Tryz.prog W 0 (fun _ => true) true Tryz.f3.params.toList args.toList ds p := hA0
  rw [Tryz.params3] at hA hval
  obtain ⟨v0, d0, rfl, rfl, h0⟩ := trodAll_one hA
  obtain ⟨a, b, c, s, t, rfl⟩ := deed (hval 0 24 v0 rfl rfl) h0
  obtain ⟨rfl, rfl⟩ := trodVars_none hV
  refine (walk a b c s t W).mono fun e W' ⟨he, hb⟩ => ?_
  subst he
  exact ⟨_, rfl, post_true laidOut hW rfl (by kernel_rfl) Tryz.underlying4 rfl (by kernel_rfl) hb⟩

theorem outboundNone_holds : Rows.OutboundNoneSaid :=
  OpenClaim.holds_of_wide 3 Tryz.f3 rfl rfl rfl rfl rfl rfl rfl ⟨rfl, rfl, rfl, rfl, rfl⟩ rfl rfl rfl rfl rfl (by kernel_rfl) Tryz.func3 (by kernel_rfl)
    (of_decide_eq_true (by kernel_rfl)) (by unfold Func.isWrapper; first | (rw [if_pos (by decide +kernel)]; kernel_rfl) | (rw [if_neg (by decide +kernel)]; exact ⟨rfl, rfl⟩))
    (fun os started H enc _ => outboundNone_lifted os started H enc)
end Go.Proofs.YtkogjgpoidoeoaaGreat
