/- The law SchemaEncodes: for every input the call returns true, and the arguments read behind it as before. Its conditions are the given row's own. -/
import Derived.Test.YtpfckpaokoifhaaGreatDoorRows
import Derived.Test.YtpfckpaokoifhaaGreatDoorCards
import Derived.Test.YtpfckpaokoifhaaGreatDoorTie
import Derived.Test.YtpfckpaokoifhaaGreatDoorJEz
import Derived.Test.YtpfckpaokoifhaaGreatDoorJVk
import Derived.Test.YtpfckpaokoifhaaGreatDoorJRs
import Derived.Test.YtpfckpaokoifhaaGreatDoorJPl
import Derived.Test.YtpfckpaokoifhaaGreatDoorJKu
import Derived.Lay
import Derived.LaidMore
import Derived.ProofKit
import Derived.MakeChecks
namespace Go.Proofs.YtpfckpaokoifhaaGreatDoor.schemaEncodes
open Go.ChangeShapes Go.WideShapes Go.ChangeAt Go.RowKit Go.Proofs.YtpfckpaokoifhaaGreatDoor.Pa Go.Proofs.YtpfckpaokoifhaaGreatDoor.Pl Go.Proofs.YtpfckpaokoifhaaGreatDoor.Pl
open Go.ChangeMaps (open_string shut_string)
set_option linter.unusedVariables false
theorem ts : Rs.TS Tryz.prog 22 70 3 23 := ⟨Tryz.underlying22, ⟨_, Tryz.underlying70, by kernel_rfl, by kernel_rfl⟩, Tryz.underlying3, Tryz.underlying23, by kernel_rfl⟩
theorem tv : Vo.TV Tryz.prog 25 27 23 24 5 := ⟨Tryz.underlying25, ⟨_, Tryz.underlying27, by kernel_rfl, by kernel_rfl⟩, Tryz.underlying23, Tryz.underlying24, Tryz.underlying5, by kernel_rfl, by kernel_rfl⟩
theorem own : ownKnob Tryz.prog.godebug = none := by kernel_rfl
theorem laidOut : laidOutB Tryz.prog = true := by kernel_rfl
theorem laid_is : Rows.schemaEncodesRow.laid = Ku.LL := rfl
theorem door_met (os : Os) (args : Array Value) : laidMetH Tryz.prog Rows.schemaEncodesRow.laid ((Ku.start os).forCall (fun _ _ => 0) ⟨#[], args, []⟩).memory := by
  rw [laid_is]; exact Ku.start_met os args
set_option maxRecDepth 100000 in
theorem lifted (os : Os) (started : os.Started) (H : Type) (enc : TypeId × Value → H) :
    ReturnsInHanded {} Tryz.checked os 4 .any (fun w args => (Rows.schemaEncodesSpec.pre enc Tryz.prog Tryz.f4 [] false w args ∧ laidMetH Tryz.prog Rows.schemaEncodesRow.laid w) ∧ sizedMet enc Tryz.prog Tryz.f4 (OpenSpec.ofChange Rows.schemaEncodesSpec) false w args) (Rows.schemaEncodesSpec.post enc Tryz.prog Tryz.f4 false true false false) := by
  refine returnsInHanded_of_change_and (C := Tryz.checked) (X := fun w _ => laidMetH Tryz.prog Rows.schemaEncodesRow.laid w) (fun _ _ _ hh h => h.of_heap hh) own started (by kernel_rfl) Tryz.func4
    (ChangeSpec.witness_shaped (enc := enc) (C := Tryz.checked) (os := os) (X := fun w _ => laidMetH Tryz.prog Rows.schemaEncodesRow.laid w) false (Ku.start os) #[.slice none 0 0, .agg #[.int .u64 0, .slice none 0 0, .slice none 0 0]] 8 (Ku.start_os _) (World.shaped_of_ZipB (by kernel_rfl) (by kernel_rfl)) (by kernel_rfl) (by kernel_rfl) (by kernel_rfl) (door_met os _)) ?_
  intro W base args ds gs before hval0 hW hcnd hsz0 hL _
  have hval : ∀ (j : Nat) t v, Tryz.f4.params[j]? = some t → args[j]? = some v → Value.okWide Tryz.prog W .any base t v := hval0
  have hW' := hW
  obtain ⟨p, q, hA0, hV, rfl, hfz, hnd⟩ := hW
  have hA : DataW.TrodAll enc Tryz.prog W 0 (fun _ => true) true Tryz.f4.params.toList args.toList ds p := hA0
  rw [Tryz.params4] at hA hval
  obtain ⟨v0, vs0, d0, ds0, p0, q0, hargs, rfl, rfl, h0, r0⟩ := trodAll_cons hA
  obtain ⟨v1, vs1, d1, ds1, p1, q1, rfl, rfl, rfl, h1, r1⟩ := trodAll_cons r0
  obtain ⟨rfl, rfl, rfl⟩ := trodAll_nil r1
  obtain rfl : args = #[v0, v1] := by cases args; simp_all
  obtain ⟨rfl, rfl⟩ := trodVars_none hV
  obtain ⟨n0, l0, w0⟩ := Rs.open_schema ts (hval 0 22 v0 rfl rfl) h0
  obtain ⟨n1, nv1, dv1, pv1, x1, rfl, w1⟩ := Vo.open_value tv (hval 1 27 v1 rfl rfl) h1
  refine (Ez.walk W w0 w1 (Ku.tabu_of (laid_is ▸ hL)) (Ku.et_of (laid_is ▸ hL))).mono fun e W' ⟨he, bel⟩ => ?_
  subst he
  exact ⟨_, rfl, post_of_below hW' rfl rfl Tryz.underlying4 rfl laidOut (by kernel_rfl) bel⟩

theorem over : Rows.schemaEncodesRow.holds Tryz.pinned (OpenSpec.ofChange Rows.schemaEncodesSpec) :=
  OpenClaim.holds_of_wide 4 Tryz.f4 rfl rfl rfl rfl rfl rfl rfl ⟨rfl, rfl, rfl, rfl, rfl⟩ rfl rfl rfl rfl rfl (by kernel_rfl) Tryz.func4 (by kernel_rfl)
    (of_decide_eq_true (by kernel_rfl)) (by unfold Func.isWrapper; first | (rw [if_pos (by decide +kernel)]; kernel_rfl) | (rw [if_neg (by decide +kernel)]; exact ⟨rfl, rfl⟩))
    (fun os started H enc _ => lifted os started H enc)
theorem proved : Rows.SchemaEncodesSaid := over
end Go.Proofs.YtpfckpaokoifhaaGreatDoor.schemaEncodes
namespace Go.Proofs.YtpfckpaokoifhaaGreatDoor
theorem schemaEncodes_row_holds : Rows.SchemaEncodesSaid := schemaEncodes.proved
set_option maxRecDepth 100000 in
/-- The card, under a short name, for the claim. -/
theorem schemaEncodes_holds : Rows.SchemaEncodesCardSaid :=
  Claim7.holds_tied_plain_at .later [] Rows.schemaEncodesCard.laidKinds true Rows.schemaEncodesCard.stood.harness Rows.schemaEncodesCard.stood.looks
    schemaEncodes_row_holds (fun _ h => by cases h) (by kernel_rfl) (fun _ h => by cases h) schemaEncodes_row_tie rfl ⟨rfl, rfl⟩ (by kernel_rfl) rfl
    (fun f fn hf hfn => by
      obtain rfl : f = 4 := Option.some.inj ((show Tryz.prog.funcNamed "pawl/pawllaw08.SchemaEncodes" = some 4 by kernel_rfl).symm.trans hf) |>.symm
      obtain rfl : fn = Tryz.f4 := (Option.some.inj (Tryz.func4.symm.trans hfn)).symm
      refine ⟨by kernel_rfl, fun j t ht => ?_⟩
      rw [Tryz.params4] at ht
      have hm : t ∈ [22, 27] := by
        have := Array.mem_of_getElem? ht
        simpa using this
      have k0 : Tryz.prog.wantsStandIn 22 = false := by kernel_rfl
      have k1 : Tryz.prog.wantsStandIn 27 = false := by kernel_rfl
      simp only [List.mem_cons, List.not_mem_nil, or_false] at hm
      rcases hm with h | h <;> subst h <;> first | exact k0 | exact k1)
    (by kernel_rfl)
end Go.Proofs.YtpfckpaokoifhaaGreatDoor
