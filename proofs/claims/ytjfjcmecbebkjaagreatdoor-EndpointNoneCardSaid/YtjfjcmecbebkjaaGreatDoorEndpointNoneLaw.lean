/-
  'lightshiplaw30.EndpointNone' answers true, whatever the input, and the input reads as it did, the card tied to the text. Conditions: none but what the row lists of package-level variables.
-/
import Derived.Test.YtjfjcmecbebkjaaGreatDoorTie
import Derived.Test.YtjfjcmecbebkjaaGreatDoorCards
import Derived.Test.YtjfjcmecbebkjaaGreatDoorEndpointNoneRun
import Derived.Test.YtjfjcmecbebkjaaGreatDoorEndpointNoneClosed
import Derived.LaidMore
import Derived.Lay
import Derived.SevenTiedAt
import Derived.Stop.Joined
set_option linter.unusedVariables false
set_option linter.unusedSimpArgs false
namespace Go.Proofs.YtjfjcmecbebkjaaGreatDoor
open Go Go.Abs Go.ChangeShapes Go.WideShapes Go.ChangeAt Go.RowKit

theorem own : ownKnob Tryz.prog.godebug = none := by kernel_rfl
theorem laidOut : laidOutB Tryz.prog = true := by kernel_rfl
theorem mixed : Tryz.prog.follows .mixedOrders = true := by kernel_rfl
theorem names : namesOk Tryz.prog = true := by kernel_rfl

theorem cells : Tryz.prog.cellsOf 28 = 17 := by kernel_rfl

theorem walk (cs : Array Value) (hn : cs.toList.length = 17) (hc : ∀ c ∈ cs.toList, cellOk c = true) (W : World) :
    Calls Tryz.prog 3 #[.agg cs] W fun e W' => e = .returned (.bool true) ∧ Below W.heap.size W W' := by
  have := calls_opq (S := 100000000) (n := 100) (f := 3) (B := fun f => (firsts.get f).getD 0) mixed names cs.toList hc (by rw [hn]; exact run) W
  simpa using this

set_option maxRecDepth 100000 in
theorem endpointNone_lifted (os : Os) (started : os.Started) (H : Type) (enc : TypeId × Value → H) :
    ReturnsInHanded {} Tryz.checked os 3 .any (fun w args => (Rows.endpointNoneSpec.pre enc Tryz.prog Tryz.f3 Rows.endpointNoneRow.domain false w args ∧ laidMetH Tryz.prog Rows.endpointNoneRow.laid w) ∧ sizedMet enc Tryz.prog Tryz.f3 (OpenSpec.ofChange Rows.endpointNoneSpec) false w args)
      (Rows.endpointNoneSpec.post enc Tryz.prog Tryz.f3 false true false false) := by
  refine returnsInHanded_of_change_and (C := Tryz.checked) (X := fun w _ => laidMetH Tryz.prog Rows.endpointNoneRow.laid w) (fun _ _ _ hh h => h.of_heap hh) own started (by kernel_rfl) Tryz.func3
    (ChangeSpec.witness_shaped (enc := enc) (C := Tryz.checked) (os := os) (X := fun w _ => laidMetH Tryz.prog Rows.endpointNoneRow.laid w) false (World.laidAll Tryz.prog os Rows.endpointNoneRow.laid) #[.agg #[.int .i64 0, .int .i64 0, .int .i64 0, .int .i64 0, .string .empty, .int .i64 0, .int .i64 0, .int .u32 0, .int .i64 0, .int .i64 0, .int .i64 0, .int .i64 0, .int .i64 0, .string .empty, .string .empty, .string .empty, .int .i64 0]] 8 (World.laidAll_os _ _ _)
      (World.shaped_of_ZipB (by kernel_rfl) (by kernel_rfl)) (by kernel_rfl) (by kernel_rfl) (by kernel_rfl)
      (by rw [MakeChecks.laidMetH_plain _ _ _ (by kernel_rfl)]; exact laidMet_laidAll _ (by kernel_rfl) (by kernel_rfl))) ?_
  intro W base args ds gs before hval0 hW _ _ _ _
  have hval : ∀ (j : Nat) t v, Tryz.f3.params[j]? = some t → args[j]? = some v → Value.okWide Tryz.prog W .any base t v := hval0
  have hW' := hW
  obtain ⟨p, q, hA0, hV, rfl, _, _⟩ := hW'
  have hA : DataW.TrodAll enc Tryz.prog W 0 (fun _ => true) true Tryz.f3.params.toList args.toList ds p := hA0
  rw [Tryz.params3] at hA hval
  obtain ⟨v0, d0, rfl, rfl, h0⟩ := trodAll_one hA
  obtain ⟨cs, rfl, hn, hc⟩ := okWide_cells Tryz.underlying28 (hval 0 28 v0 rfl rfl)
  obtain ⟨rfl, rfl⟩ := trodVars_none hV
  refine (walk cs (hn.trans cells) hc W).mono fun e W' ⟨he, hb⟩ => ?_
  subst he
  exact ⟨_, rfl, post_true laidOut hW rfl (by kernel_rfl) Tryz.underlying4 rfl (by kernel_rfl) hb⟩

theorem endpointNone_holds : Rows.EndpointNoneSaid :=
  OpenClaim.holds_of_wide 3 Tryz.f3 rfl rfl rfl rfl rfl rfl rfl ⟨rfl, rfl, rfl, rfl, rfl⟩ rfl rfl rfl rfl rfl named3 Tryz.func3 closed
    instance3 wrapper3
    (fun os started H enc _ => endpointNone_lifted os started H enc)

theorem cardWf : Rows.endpointNoneRow.wfByText (OpenSpec.ofChange Rows.endpointNoneSpec) = true := by kernel_rfl
theorem cardMain : Tryz.prog.mainIs = some (true, ("cf3dfe8c5a478f410aaf9c0bdcbe55c08ee6adf438938f599fd1f7f5f6078624" : String).toList) := by kernel_rfl
theorem cardLooks : true = Tryz.prog.looks [] := by kernel_rfl
theorem cardStand : ([28].all fun u => !Tryz.prog.wantsStandIn u) = true := by kernel_rfl
theorem cardGoes : false = Rows.endpointNoneRow.goesBy Tryz.prog := by kernel_rfl
/-- The tied card. -/
theorem endpointNone_card : Rows.EndpointNoneCardSaid :=
  Claim7.holds_tied_plain_at .later [] [.data, .pinned] true (true, "cf3dfe8c5a478f410aaf9c0bdcbe55c08ee6adf438938f599fd1f7f5f6078624") true endpointNone_holds (fun _ h => by cases h) cardWf (fun _ h => by cases h) endpointNone_row_tie rfl ⟨rfl, rfl⟩ cardMain rfl
    (fun f fn hf hfn => by
      obtain rfl : f = 3 := Option.some.inj (named3.symm.trans hf) |>.symm
      obtain rfl : fn = Tryz.f3 := (Option.some.inj (Tryz.func3.symm.trans hfn)).symm
      exact ⟨cardLooks, fun j t ht => by
        rw [Tryz.params3] at ht
        have hm : t ∈ [28] := by simpa using Array.mem_of_getElem? ht
        exact (show Tryz.prog.wantsStandIn t = false by simpa using List.all_eq_true.1 cardStand t hm)⟩)
    cardGoes
end Go.Proofs.YtjfjcmecbebkjaaGreatDoor
