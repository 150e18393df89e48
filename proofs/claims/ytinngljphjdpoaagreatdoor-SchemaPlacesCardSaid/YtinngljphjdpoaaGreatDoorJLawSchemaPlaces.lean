/- The law SchemaPlaces: for every input the call returns true, and the arguments read behind it as before. Its conditions are the given row's own. -/
import Derived.Test.YtinngljphjdpoaaGreatDoorRows
import Derived.Test.YtinngljphjdpoaaGreatDoorCards
import Derived.Test.YtinngljphjdpoaaGreatDoorTie
import Derived.Test.YtinngljphjdpoaaGreatDoorJWp
import Derived.Test.YtinngljphjdpoaaGreatDoorJRq
import Derived.Test.YtinngljphjdpoaaGreatDoorJRs
import Derived.Test.YtinngljphjdpoaaGreatDoorJPl
import Derived.Test.YtinngljphjdpoaaGreatDoorJKu
import Derived.Lay
import Derived.LaidMore
import Derived.ProofKit
import Derived.MakeChecks
namespace Go.Proofs.YtinngljphjdpoaaGreatDoor.schemaPlaces
open Go.ChangeShapes Go.WideShapes Go.ChangeAt Go.RowKit Go.Proofs.YtinngljphjdpoaaGreatDoor.Pa Go.Proofs.YtinngljphjdpoaaGreatDoor.Pl Go.Proofs.YtinngljphjdpoaaGreatDoor.Pl
open Go.ChangeMaps (open_string shut_string)
set_option linter.unusedVariables false
theorem ts : Rs.TS Tryz.prog 22 117 3 29 := ⟨Tryz.underlying22, ⟨_, Tryz.underlying117, by kernel_rfl, by kernel_rfl⟩, Tryz.underlying3, Tryz.underlying29, by kernel_rfl⟩
theorem tv : Vo.TV Tryz.prog 30 32 29 23 5 := ⟨Tryz.underlying30, ⟨_, Tryz.underlying32, by kernel_rfl, by kernel_rfl⟩, Tryz.underlying29, Tryz.underlying23, Tryz.underlying5, by kernel_rfl, by kernel_rfl⟩
theorem own : ownKnob Tryz.prog.godebug = none := by kernel_rfl
theorem laidOut : laidOutB Tryz.prog = true := by kernel_rfl
theorem laid_is : Rows.schemaPlacesRow.laid = Ku.LL := rfl
theorem door_met (os : Os) (args : Array Value) : laidMetH Tryz.prog Rows.schemaPlacesRow.laid ((Ku.start os).forCall (fun _ _ => 0) ⟨#[], args, []⟩).memory := by
  rw [laid_is]; exact Ku.start_met os args
set_option maxRecDepth 100000 in
theorem lifted (os : Os) (started : os.Started) (H : Type) (enc : TypeId × Value → H) :
    ReturnsInHanded {} Tryz.checked os 7 .any (fun w args => (Rows.schemaPlacesSpec.pre enc Tryz.prog Tryz.f7 [] false w args ∧ laidMetH Tryz.prog Rows.schemaPlacesRow.laid w) ∧ sizedMet enc Tryz.prog Tryz.f7 (OpenSpec.ofChange Rows.schemaPlacesSpec) false w args) (Rows.schemaPlacesSpec.post enc Tryz.prog Tryz.f7 false true false false) := by
  refine returnsInHanded_of_change_and (C := Tryz.checked) (X := fun w _ => laidMetH Tryz.prog Rows.schemaPlacesRow.laid w) (fun _ _ _ hh h => h.of_heap hh) own started (by kernel_rfl) Tryz.func7
    (ChangeSpec.witness_shaped (enc := enc) (C := Tryz.checked) (os := os) (X := fun w _ => laidMetH Tryz.prog Rows.schemaPlacesRow.laid w) false (Ku.start os) #[.slice none 0 0, .slice none 0 0, .agg #[.int .u64 0, .slice none 0 0, .slice none 0 0]] 8 (Ku.start_os _) (World.shaped_of_ZipB (by kernel_rfl) (by kernel_rfl)) (by kernel_rfl) (by kernel_rfl) (by kernel_rfl) (door_met os _)) ?_
  intro W base args ds gs before hval0 hW hcnd hsz0 hL _
  have hval : ∀ (j : Nat) t v, Tryz.f7.params[j]? = some t → args[j]? = some v → Value.okWide Tryz.prog W .any base t v := hval0
  have hW' := hW
  obtain ⟨p, q, hA0, hV, rfl, hfz, hnd⟩ := hW
  have hA : DataW.TrodAll enc Tryz.prog W 0 (fun _ => true) true Tryz.f7.params.toList args.toList ds p := hA0
  have hsz : (DataW.weightsEach Tryz.prog (Tryz.f7.params.toList ++ Rows.schemaPlacesSpec.plain.varTypes Tryz.prog) (ds ++ gs)).all (· ≤ reachBytes) = true := hsz0
  rw [Tryz.params7] at hA hval hsz
  obtain ⟨v0, vs0, d0, ds0, p0, q0, hargs, rfl, rfl, h0, r0⟩ := trodAll_cons hA
  obtain ⟨v1, vs1, d1, ds1, p1, q1, rfl, rfl, rfl, h1, r1⟩ := trodAll_cons r0
  obtain ⟨v2, vs2, d2, ds2, p2, q2, rfl, rfl, rfl, h2, r2⟩ := trodAll_cons r1
  obtain ⟨rfl, rfl, rfl⟩ := trodAll_nil r2
  obtain rfl : args = #[v0, v1, v2] := by cases args; simp_all
  obtain ⟨rfl, rfl⟩ := trodVars_none hV
  obtain ⟨n0, l0, w0⟩ := Rs.open_schema ts (hval 0 22 v0 rfl rfl) h0
  obtain ⟨l1, w1, s1⟩ := open_u8s Tryz.underlying23 Tryz.underlying5 (by kernel_rfl) (by kernel_rfl) (hval 1 23 v1 rfl rfl) h1 hsz (j := 1) rfl rfl
  obtain ⟨n2, nv2, dv2, pv2, x2, rfl, w2⟩ := Vo.open_value tv (hval 2 32 v2 rfl rfl) h2
  refine (Wp.walk W w0 w1 s1 w2 (Ku.tabu_of (laid_is ▸ hL)) (Ku.et_of (laid_is ▸ hL))).mono fun e W' ⟨he, bel⟩ => ?_
  subst he
  exact ⟨_, rfl, post_of_below hW' rfl rfl Tryz.underlying4 rfl laidOut (by kernel_rfl) bel⟩

theorem over : Rows.schemaPlacesRow.holds Tryz.pinned (OpenSpec.ofChange Rows.schemaPlacesSpec) :=
  OpenClaim.holds_of_wide 7 Tryz.f7 rfl rfl rfl rfl rfl rfl rfl ⟨rfl, rfl, rfl, rfl, rfl⟩ rfl rfl rfl rfl rfl (by kernel_rfl) Tryz.func7 (by kernel_rfl)
    (of_decide_eq_true (by kernel_rfl)) (by unfold Func.isWrapper; first | (rw [if_pos (by decide +kernel)]; kernel_rfl) | (rw [if_neg (by decide +kernel)]; exact ⟨rfl, rfl⟩))
    (fun os started H enc _ => lifted os started H enc)
theorem proved : Rows.SchemaPlacesSaid := over
end Go.Proofs.YtinngljphjdpoaaGreatDoor.schemaPlaces
namespace Go.Proofs.YtinngljphjdpoaaGreatDoor
theorem schemaPlaces_row_holds : Rows.SchemaPlacesSaid := schemaPlaces.proved
set_option maxRecDepth 100000 in
/-- The card, under a short name, for the claim. -/
theorem schemaPlaces_holds : Rows.SchemaPlacesCardSaid :=
  Claim7.holds_tied_plain_at .later [] Rows.schemaPlacesCard.laidKinds true Rows.schemaPlacesCard.stood.harness Rows.schemaPlacesCard.stood.looks
    schemaPlaces_row_holds (fun _ h => by cases h) (by kernel_rfl) (fun _ h => by cases h) schemaPlaces_row_tie rfl ⟨rfl, rfl⟩ (by kernel_rfl) rfl
    (fun f fn hf hfn => by
      obtain rfl : f = 7 := Option.some.inj ((show Tryz.prog.funcNamed "pawl/pawllaw08.SchemaPlaces" = some 7 by kernel_rfl).symm.trans hf) |>.symm
      obtain rfl : fn = Tryz.f7 := (Option.some.inj (Tryz.func7.symm.trans hfn)).symm
      refine ⟨by kernel_rfl, fun j t ht => ?_⟩
      rw [Tryz.params7] at ht
      have hm : t ∈ [22, 23, 32] := by
        have := Array.mem_of_getElem? ht
        simpa using this
      have k0 : Tryz.prog.wantsStandIn 22 = false := by kernel_rfl
      have k1 : Tryz.prog.wantsStandIn 23 = false := by kernel_rfl
      have k2 : Tryz.prog.wantsStandIn 32 = false := by kernel_rfl
      simp only [List.mem_cons, List.not_mem_nil, or_false] at hm
      rcases hm with h | h | h <;> subst h <;> first | exact k0 | exact k1 | exact k2)
    (by kernel_rfl)
end Go.Proofs.YtinngljphjdpoaaGreatDoor
