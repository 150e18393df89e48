/- The law EnvelopeHeaders: for every input the call returns true, and the arguments read behind it as before. Its conditions are the given row's own. -/
import Derived.Test.YtinngljphjdpoaaGreatDoorRows
import Derived.Test.YtinngljphjdpoaaGreatDoorCards
import Derived.Test.YtinngljphjdpoaaGreatDoorTie
import Derived.Test.YtinngljphjdpoaaGreatDoorJHe
import Derived.Test.YtinngljphjdpoaaGreatDoorJTeo
import Derived.Test.YtinngljphjdpoaaGreatDoorJKu
import Derived.Lay
import Derived.LaidMore
import Derived.ProofKit
namespace Go.Proofs.YtinngljphjdpoaaGreatDoor.envelopeHeaders
open Go.ChangeShapes Go.WideShapes Go.ChangeAt Go.RowKit Go.Proofs.YtinngljphjdpoaaGreatDoor.Pa Go.Proofs.YtinngljphjdpoaaGreatDoor.Pl Go.Proofs.YtinngljphjdpoaaGreatDoor.Ty
open Go.ChangeMaps (open_string shut_string)
set_option linter.unusedVariables false
theorem own : ownKnob Tryz.prog.godebug = none := by kernel_rfl
theorem laidOut : laidOutB Tryz.prog = true := by kernel_rfl
theorem laid_is : Rows.envelopeHeadersRow.laid = Ku.dataL := rfl
theorem door_met (os : Os) (args : Array Value) : laidMetH Tryz.prog Rows.envelopeHeadersRow.laid ((Ku.start os).forCall (fun _ _ => 0) ⟨#[], args, []⟩).memory := by
  rw [laid_is]; exact Ku.data_met os args
set_option maxRecDepth 100000 in
theorem lifted (os : Os) (started : os.Started) (H : Type) (enc : TypeId × Value → H) :
    ReturnsInHanded {} Tryz.checked os 5 .any (fun w args => (Rows.envelopeHeadersSpec.pre enc Tryz.prog Tryz.f5 [] false w args ∧ laidMetH Tryz.prog Rows.envelopeHeadersRow.laid w) ∧ sizedMet enc Tryz.prog Tryz.f5 (OpenSpec.ofChange Rows.envelopeHeadersSpec) false w args) (Rows.envelopeHeadersSpec.post enc Tryz.prog Tryz.f5 false true false false) := by
  refine returnsInHanded_of_change_and (C := Tryz.checked) (X := fun w _ => laidMetH Tryz.prog Rows.envelopeHeadersRow.laid w) (fun _ _ _ hh h => h.of_heap hh) own started (by kernel_rfl) Tryz.func5
    (ChangeSpec.witness_shaped (enc := enc) (C := Tryz.checked) (os := os) (X := fun w _ => laidMetH Tryz.prog Rows.envelopeHeadersRow.laid w) false (Ku.start os) #[.agg Header.zero.c] 8 (Ku.start_os _) (World.shaped_of_ZipB (by kernel_rfl) (by kernel_rfl)) (by kernel_rfl) (by kernel_rfl) (by kernel_rfl) (door_met os _)) ?_
  intro W base args ds gs before hval0 hW hcnd hsz0 hL _
  have hval : ∀ (j : Nat) t v, Tryz.f5.params[j]? = some t → args[j]? = some v → Value.okWide Tryz.prog W .any base t v := hval0
  have hW' := hW
  obtain ⟨p, q, hA0, hV, rfl, hfz, hnd⟩ := hW
  have hA : DataW.TrodAll enc Tryz.prog W 0 (fun _ => true) true Tryz.f5.params.toList args.toList ds p := hA0
  rw [Tryz.params5] at hA hval
  obtain ⟨v0, vs0, d0, ds0, p0, q0, hargs, rfl, rfl, h0, r0⟩ := trodAll_cons hA
  obtain ⟨rfl, rfl, rfl⟩ := trodAll_nil r0
  obtain rfl : args = #[v0] := by cases args; simp_all
  obtain ⟨rfl, rfl⟩ := trodVars_none hV
  obtain ⟨a0, rfl, f0_0, f0_1⟩ := ovHeader (hval 0 57 v0 rfl rfl) h0
  refine (He.walk a0 f0_0 f0_1 W (Ku.tabu_data (laid_is ▸ hL))).mono fun e W' ⟨he, bel⟩ => ?_
  subst he
  exact ⟨_, rfl, post_of_below hW' rfl rfl Tryz.underlying4 rfl laidOut (by kernel_rfl) bel⟩

theorem over : Rows.envelopeHeadersRow.holds Tryz.pinned (OpenSpec.ofChange Rows.envelopeHeadersSpec) :=
  OpenClaim.holds_of_wide 5 Tryz.f5 rfl rfl rfl rfl rfl rfl rfl ⟨rfl, rfl, rfl, rfl, rfl⟩ rfl rfl rfl rfl rfl (by kernel_rfl) Tryz.func5 (by kernel_rfl)
    (of_decide_eq_true (by kernel_rfl)) (by unfold Func.isWrapper; first | (rw [if_pos (by decide +kernel)]; kernel_rfl) | (rw [if_neg (by decide +kernel)]; exact ⟨rfl, rfl⟩))
    (fun os started H enc _ => lifted os started H enc)
theorem proved : Rows.EnvelopeHeadersSaid := over
end Go.Proofs.YtinngljphjdpoaaGreatDoor.envelopeHeaders
namespace Go.Proofs.YtinngljphjdpoaaGreatDoor
theorem envelopeHeaders_row_holds : Rows.EnvelopeHeadersSaid := envelopeHeaders.proved
set_option maxRecDepth 100000 in
/-- The card, under a short name, for the claim. -/
theorem envelopeHeaders_holds : Rows.EnvelopeHeadersCardSaid :=
  Claim7.holds_tied_plain_at .later [] Rows.envelopeHeadersCard.laidKinds true Rows.envelopeHeadersCard.stood.harness Rows.envelopeHeadersCard.stood.looks
    envelopeHeaders_row_holds (fun _ h => by cases h) (by kernel_rfl) (fun _ h => by cases h) envelopeHeaders_row_tie rfl ⟨rfl, rfl⟩ (by kernel_rfl) rfl
    (fun f fn hf hfn => by
      obtain rfl : f = 5 := Option.some.inj ((show Tryz.prog.funcNamed "pawl/pawllaw10.EnvelopeHeaders" = some 5 by kernel_rfl).symm.trans hf) |>.symm
      obtain rfl : fn = Tryz.f5 := (Option.some.inj (Tryz.func5.symm.trans hfn)).symm
      refine ⟨by kernel_rfl, fun j t ht => ?_⟩
      rw [Tryz.params5] at ht
      have hm : t ∈ [57] := by
        have := Array.mem_of_getElem? ht
        simpa using this
      have k0 : Tryz.prog.wantsStandIn 57 = false := by kernel_rfl
      simp only [List.mem_cons, List.not_mem_nil, or_false] at hm
      subst hm; exact k0)
    (by kernel_rfl)
end Go.Proofs.YtinngljphjdpoaaGreatDoor
