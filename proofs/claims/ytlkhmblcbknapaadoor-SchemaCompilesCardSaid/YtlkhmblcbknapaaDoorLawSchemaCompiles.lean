/- The law SchemaCompiles: for every input the call returns true, and the arguments read behind it as before. Its conditions are the given row's own. -/
import Derived.Test.YtlkhmblcbknapaaDoorRows
import Derived.Test.YtlkhmblcbknapaaDoorCards
import Derived.Test.YtlkhmblcbknapaaDoorTie
import Derived.Test.YtlkhmblcbknapaaDoorMd
import Derived.Test.YtlkhmblcbknapaaDoorRs
import Derived.Test.YtlkhmblcbknapaaDoorPl
import Derived.LaidMore
import Derived.Lay
import Derived.ProofKit
import Derived.MakeChecks
namespace Go.Proofs.YtlkhmblcbknapaaDoor.schemaCompiles
open Go.ChangeShapes Go.WideShapes Go.ChangeAt Go.RowKit Go.Proofs.YtlkhmblcbknapaaDoor.Pa Go.Proofs.YtlkhmblcbknapaaDoor.Pl Go.Proofs.YtlkhmblcbknapaaDoor.Pl
open Go.ChangeMaps (open_string shut_string)
set_option linter.unusedVariables false
theorem ts : Rs.TS Tryd.prog 22 56 3 33 := ⟨Tryd.underlying22, ⟨_, Tryd.underlying56, by kernel_rfl, by kernel_rfl⟩, Tryd.underlying3, Tryd.underlying33, by kernel_rfl⟩
theorem own : ownKnob Tryd.prog.godebug = none := by kernel_rfl
theorem laidOut : laidOutB Tryd.prog = true := by kernel_rfl
theorem plain (w : World) : laidMetH Tryd.prog Rows.schemaCompilesRow.laid w = laidMet Tryd.prog Rows.schemaCompilesRow.laid w := MakeChecks.laidMetH_plain _ _ _ (by kernel_rfl)
theorem door_met (os : Os) (args : Array Value) : laidMetH Tryd.prog Rows.schemaCompilesRow.laid ((World.laidAll Tryd.prog os Rows.schemaCompilesRow.laid).forCall (fun _ _ => 0) ⟨#[], args, []⟩).memory := by
  rw [plain]; exact laidMet_laidAll _ (by kernel_rfl) (by kernel_rfl)
set_option maxRecDepth 100000 in
theorem lifted (os : Os) (started : os.Started) (H : Type) (enc : TypeId × Value → H) :
    ReturnsInHanded {} Tryd.checked os 3 .any (fun w args => (Rows.schemaCompilesSpec.pre enc Tryd.prog Tryd.f3 [] false w args ∧ laidMetH Tryd.prog Rows.schemaCompilesRow.laid w) ∧ sizedMet enc Tryd.prog Tryd.f3 (OpenSpec.ofChange Rows.schemaCompilesSpec) false w args) (Rows.schemaCompilesSpec.post enc Tryd.prog Tryd.f3 false true false false) := by
  refine returnsInHanded_of_change_and (C := Tryd.checked) (X := fun w _ => laidMetH Tryd.prog Rows.schemaCompilesRow.laid w) (fun _ _ _ hh h => h.of_heap hh) own started (by kernel_rfl) Tryd.func3
    (ChangeSpec.witness_shaped (enc := enc) (C := Tryd.checked) (os := os) (X := fun w _ => laidMetH Tryd.prog Rows.schemaCompilesRow.laid w) false (World.laidAll Tryd.prog os Rows.schemaCompilesRow.laid) #[.slice none 0 0] 8 (World.laidAll_os _ _ _) (World.shaped_of_ZipB (by kernel_rfl) (by kernel_rfl)) (by kernel_rfl) (by kernel_rfl) (by kernel_rfl) (door_met os _)) ?_
  intro W base args ds gs before hval0 hW hcnd hsz0 hL _
  have hval : ∀ (j : Nat) t v, Tryd.f3.params[j]? = some t → args[j]? = some v → Value.okWide Tryd.prog W .any base t v := hval0
  have hW' := hW
  obtain ⟨p, q, hA0, hV, rfl, hfz, hnd⟩ := hW
  have hA : DataW.TrodAll enc Tryd.prog W 0 (fun _ => true) true Tryd.f3.params.toList args.toList ds p := hA0
  rw [Tryd.params3] at hA hval
  obtain ⟨v0, vs0, d0, ds0, p0, q0, hargs, rfl, rfl, h0, r0⟩ := trodAll_cons hA
  obtain ⟨rfl, rfl, rfl⟩ := trodAll_nil r0
  obtain rfl : args = #[v0] := by cases args; simp_all
  obtain ⟨rfl, rfl⟩ := trodVars_none hV
  obtain ⟨n0, l0, w0⟩ := Rs.open_schema ts (hval 0 22 v0 rfl rfl) h0
  refine (Md.walk W w0).mono fun e W' ⟨he, bel⟩ => ?_
  subst he
  exact ⟨_, rfl, post_of_below hW' rfl rfl Tryd.underlying4 rfl laidOut (by kernel_rfl) bel⟩

theorem over : Rows.schemaCompilesRow.holds Tryd.pinned (OpenSpec.ofChange Rows.schemaCompilesSpec) :=
  OpenClaim.holds_of_wide 3 Tryd.f3 rfl rfl rfl rfl rfl rfl rfl ⟨rfl, rfl, rfl, rfl, rfl⟩ rfl rfl rfl rfl rfl (by kernel_rfl) Tryd.func3 (by kernel_rfl)
    (of_decide_eq_true (by kernel_rfl)) (by unfold Func.isWrapper; first | (rw [if_pos (by decide +kernel)]; kernel_rfl) | (rw [if_neg (by decide +kernel)]; exact ⟨rfl, rfl⟩))
    (fun os started H enc _ => lifted os started H enc)
theorem proved : Rows.SchemaCompilesSaid := over
end Go.Proofs.YtlkhmblcbknapaaDoor.schemaCompiles
namespace Go.Proofs.YtlkhmblcbknapaaDoor
theorem schemaCompiles_row_holds : Rows.SchemaCompilesSaid := schemaCompiles.proved
set_option maxRecDepth 100000 in
/-- The card, under a short name, for the claim. -/
theorem schemaCompiles_holds : Rows.SchemaCompilesCardSaid :=
  Claim7.holds_tied_plain_at .later [] Rows.schemaCompilesCard.laidKinds true Rows.schemaCompilesCard.stood.harness Rows.schemaCompilesCard.stood.looks
    schemaCompiles_row_holds (fun _ h => by cases h) (by kernel_rfl) (fun _ h => by cases h) schemaCompiles_row_tie rfl ⟨rfl, rfl⟩ (by kernel_rfl) rfl
    (fun f fn hf hfn => by
      obtain rfl : f = 3 := Option.some.inj ((show Tryd.prog.funcNamed "pawl/pawllaw08.SchemaCompiles" = some 3 by kernel_rfl).symm.trans hf) |>.symm
      obtain rfl : fn = Tryd.f3 := (Option.some.inj (Tryd.func3.symm.trans hfn)).symm
      refine ⟨by kernel_rfl, fun j t ht => ?_⟩
      rw [Tryd.params3] at ht
      have hm : t ∈ [22] := by
        have := Array.mem_of_getElem? ht
        simpa using this
      have k0 : Tryd.prog.wantsStandIn 22 = false := by kernel_rfl
      simp only [List.mem_cons, List.not_mem_nil, or_false] at hm
      subst hm; exact k0)
    (by kernel_rfl)
end Go.Proofs.YtlkhmblcbknapaaDoor
