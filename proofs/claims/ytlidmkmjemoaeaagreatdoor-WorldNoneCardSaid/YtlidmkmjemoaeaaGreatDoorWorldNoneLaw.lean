/-
  'lightshiplaw32.WorldNone' answers true, whatever the input, and the input reads as it did, the card tied to the text. Conditions: none but what the row lists of package-level variables.
-/
import Derived.Test.YtlidmkmjemoaeaaGreatDoorTie
import Derived.Test.YtlidmkmjemoaeaaGreatDoorCards
import Derived.Test.YtlidmkmjemoaeaaGreatDoorWorldNoneRun
import Derived.Test.YtlidmkmjemoaeaaGreatDoorWorldNoneClosed
import Derived.Test.YtlidmkmjemoaeaaGreatDoorWnDel
import Derived.LaidMore
import Derived.Lay
import Derived.SevenTiedAt
import Derived.Stop.Joined
set_option linter.unusedVariables false
set_option linter.unusedSimpArgs false
namespace Go.Proofs.YtlidmkmjemoaeaaGreatDoor
open Go Go.Abs Go.ChangeShapes Go.WideShapes Go.ChangeAt Go.RowKit

theorem own : ownKnob Tryz.prog.godebug = none := by kernel_rfl
theorem laidOut : laidOutB Tryz.prog = true := by kernel_rfl
theorem mixed : Tryz.prog.follows .mixedOrders = true := by kernel_rfl
theorem names : namesOk Tryz.prog = true := by kernel_rfl

theorem cells : Tryz.prog.cellsOf 25 = 8 := by kernel_rfl

theorem E0eq : E0 = mkEnv Tryz.prog := by delta E0; exact Eq.refl _
theorem XEp : X.E = mkEnv Tryz.prog := XE.trans E0eq

theorem walk (cs : Array Value) (hn : cs.toList.length = 8) (hc : ∀ c ∈ cs.toList, cellOk c = true) (W : World) :
    Calls Tryz.prog 3 #[.agg cs] W fun e W' => e = .returned (.bool true) ∧ Below W.heap.size W W' := by
  have hI : @IOk (Opq.of cs.toList hc) Tryz.prog (nOf Tryz.prog) (knownDel 111 (.str [])) :=
    @iok_del (Opq.of cs.toList hc) Tryz.prog mixed names X XEp (@noneKnown (Opq.of cs.toList hc) _ _) 111 (.str []) del111
  have := calls_opqI (S := 100000000) (n := 100) (f := 3) (B := fun f => (firsts.get f).getD 0) mixed names cs.toList hc hI (by rw [hn]; exact @run (Opq.of cs.toList hc)) W
  simpa using this

set_option maxRecDepth 100000 in
theorem worldNone_lifted (os : Os) (started : os.Started) (H : Type) (enc : TypeId × Value → H) :
    ReturnsInHanded {} Tryz.checked os 3 .any (fun w args => (Rows.worldNoneSpec.pre enc Tryz.prog Tryz.f3 Rows.worldNoneRow.domain false w args ∧ laidMetH Tryz.prog Rows.worldNoneRow.laid w) ∧ sizedMet enc Tryz.prog Tryz.f3 (OpenSpec.ofChange Rows.worldNoneSpec) false w args)
      (Rows.worldNoneSpec.post enc Tryz.prog Tryz.f3 false true false false) := by
  refine returnsInHanded_of_change_and (C := Tryz.checked) (X := fun w _ => laidMetH Tryz.prog Rows.worldNoneRow.laid w) (fun _ _ _ hh h => h.of_heap hh) own started (by kernel_rfl) Tryz.func3
    (ChangeSpec.witness_shaped (enc := enc) (C := Tryz.checked) (os := os) (X := fun w _ => laidMetH Tryz.prog Rows.worldNoneRow.laid w) false (World.laidAll Tryz.prog os Rows.worldNoneRow.laid) #[.agg #[.int .i64 0, .int .i64 0, .int .i64 0, .int .i64 0, .int .i64 0, .string .empty, .int .i64 0, .string .empty]] 8 (World.laidAll_os _ _ _)
      (World.shaped_of_ZipB (by kernel_rfl) (by kernel_rfl)) (by kernel_rfl) (by kernel_rfl) (by kernel_rfl)
      (by rw [MakeChecks.laidMetH_plain _ _ _ (by kernel_rfl)]; exact laidMet_laidAll _ (by kernel_rfl) (by kernel_rfl))) ?_
  intro W base args ds gs before hval0 hW _ _ _ _
  have hval : ∀ (j : Nat) t v, Tryz.f3.params[j]? = some t → args[j]? = some v → Value.okWide Tryz.prog W .any base t v := hval0
  have hW' := hW
  obtain ⟨p, q, hA0, hV, rfl, _, _⟩ := hW'
  have hA : DataW.TrodAll enc Tryz.prog W 0 (fun _ => true) true Tryz.f3.params.toList args.toList ds p := hA0
  rw [Tryz.params3] at hA hval
  obtain ⟨v0, d0, rfl, rfl, h0⟩ := trodAll_one hA
  obtain ⟨cs, rfl, hn, hc⟩ := okWide_cells Tryz.underlying25 (hval 0 25 v0 rfl rfl)
  obtain ⟨rfl, rfl⟩ := trodVars_none hV
  refine (walk cs (hn.trans cells) hc W).mono fun e W' ⟨he, hb⟩ => ?_
  subst he
  exact ⟨_, rfl, post_true laidOut hW rfl (by kernel_rfl) Tryz.underlying4 rfl (by kernel_rfl) hb⟩

theorem worldNone_holds : Rows.WorldNoneSaid :=
  OpenClaim.holds_of_wide 3 Tryz.f3 rfl rfl rfl rfl rfl rfl rfl ⟨rfl, rfl, rfl, rfl, rfl⟩ rfl rfl rfl rfl rfl named3 Tryz.func3 closed
    instance3 wrapper3
    (fun os started H enc _ => worldNone_lifted os started H enc)

theorem cardWf : Rows.worldNoneRow.wfByText (OpenSpec.ofChange Rows.worldNoneSpec) = true := by kernel_rfl
theorem cardMain : Tryz.prog.mainIs = some (true, ("6221cf6ee859abd1a40091fa566e8b03b54640cd5c27ec248256c8db0f186c62" : String).toList) := by kernel_rfl
theorem cardLooks : true = Tryz.prog.looks [] := by kernel_rfl
theorem cardStand : ([25].all fun u => !Tryz.prog.wantsStandIn u) = true := by kernel_rfl
theorem cardGoes : false = Rows.worldNoneRow.goesBy Tryz.prog := by kernel_rfl
/-- The tied card. -/
theorem worldNone_card : Rows.WorldNoneCardSaid :=
  Claim7.holds_tied_plain_at .later [] [.data, .pinned] true (true, "6221cf6ee859abd1a40091fa566e8b03b54640cd5c27ec248256c8db0f186c62") true worldNone_holds (fun _ h => by cases h) cardWf (fun _ h => by cases h) worldNone_row_tie rfl ⟨rfl, rfl⟩ cardMain rfl
    (fun f fn hf hfn => by
      obtain rfl : f = 3 := Option.some.inj (named3.symm.trans hf) |>.symm
      obtain rfl : fn = Tryz.f3 := (Option.some.inj (Tryz.func3.symm.trans hfn)).symm
      exact ⟨cardLooks, fun j t ht => by
        rw [Tryz.params3] at ht
        have hm : t ∈ [25] := by simpa using Array.mem_of_getElem? ht
        exact (show Tryz.prog.wantsStandIn t = false by simpa using List.all_eq_true.1 cardStand t hm)⟩)
    cardGoes
end Go.Proofs.YtlidmkmjemoaeaaGreatDoor
