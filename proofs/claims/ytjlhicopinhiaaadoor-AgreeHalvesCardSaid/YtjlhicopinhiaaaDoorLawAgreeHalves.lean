/- The law AgreeHalves: for every input the call returns true, and the arguments read behind it as before. Its conditions are the given row's own. -/
import Derived.Test.YtjlhicopinhiaaaDoorRows
import Derived.Test.YtjlhicopinhiaaaDoorCards
import Derived.Test.YtjlhicopinhiaaaDoorTie
import Derived.Test.YtjlhicopinhiaaaDoorDh
import Derived.Test.YtjlhicopinhiaaaDoorKo
import Derived.LaidMore
import Derived.ProofKit
namespace Go.Proofs.YtjlhicopinhiaaaDoor.agreeHalves
open Go.ChangeShapes Go.WideShapes Go.ChangeAt Go.RowKit Go.Proofs.YtjlhicopinhiaaaDoor.Pa Go.Proofs.YtjlhicopinhiaaaDoor.Pl Go.Proofs.YtjlhicopinhiaaaDoor.Ko
open Go.ChangeMaps (open_string shut_string)
set_option linter.unusedVariables false
theorem own : ownKnob Tryd.prog.godebug = none := by kernel_rfl
theorem laidOut : laidOutB Tryd.prog = true := by kernel_rfl
theorem plain (w : World) : laidMetH Tryd.prog Rows.agreeHalvesRow.laid w = laidMet Tryd.prog Rows.agreeHalvesRow.laid w := MakeChecks.laidMetH_plain _ _ _ (by kernel_rfl)
theorem door_met (os : Os) (args : Array Value) : laidMetH Tryd.prog Rows.agreeHalvesRow.laid ((World.doorLaid Tryd.prog 400 os).forCall (fun _ _ => 0) ⟨#[], args, []⟩).memory := by
  rw [plain]; exact laidMet_of_run' 8 (by kernel_rfl) (by kernel_rfl)
theorem tab_met {W : World} (h : laidMetH Tryd.prog Rows.agreeHalvesRow.laid W) : Sk.Tab W := by
  rw [plain] at h; exact tab_of (rest := []) h
set_option maxRecDepth 100000 in
theorem lifted (os : Os) (started : os.Started) (H : Type) (enc : TypeId × Value → H) :
    ReturnsInHanded {} Tryd.checked os 5 .any (fun w args => (Rows.agreeHalvesSpec.pre enc Tryd.prog Tryd.f5 [] false w args ∧ laidMetH Tryd.prog Rows.agreeHalvesRow.laid w) ∧ sizedMet enc Tryd.prog Tryd.f5 (OpenSpec.ofChange Rows.agreeHalvesSpec) false w args) (Rows.agreeHalvesSpec.post enc Tryd.prog Tryd.f5 false true false false) := by
  refine returnsInHanded_of_change_and (C := Tryd.checked) (X := fun w _ => laidMetH Tryd.prog Rows.agreeHalvesRow.laid w) (fun _ _ _ hh h => h.of_heap hh) own started (by kernel_rfl) Tryd.func5
    (ChangeSpec.witness_shaped (enc := enc) (C := Tryd.checked) (os := os) (X := fun w _ => laidMetH Tryd.prog Rows.agreeHalvesRow.laid w) false (World.doorLaid Tryd.prog 400 os) #[.agg (bv (Vector.replicate 32 0)), .agg (bv (Vector.replicate 32 0)), .agg (bv (Vector.replicate 32 0)), .int .i64 0] 8 rfl (World.shaped_of_RefB (by kernel_rfl) (by kernel_rfl)) (by kernel_rfl) (by kernel_rfl) (by kernel_rfl) (door_met os _)) ?_
  intro W base args ds gs before hval0 hW hcnd hsz0 hL _
  have hTab := tab_met hL
  have hval : ∀ (j : Nat) t v, Tryd.f5.params[j]? = some t → args[j]? = some v → Value.okWide Tryd.prog W .any base t v := hval0
  have hW' := hW
  obtain ⟨p, q, hA0, hV, rfl, hfz, hnd⟩ := hW
  have hA : DataW.TrodAll enc Tryd.prog W 0 (fun _ => true) true Tryd.f5.params.toList args.toList ds p := hA0
  rw [Tryd.params5] at hA hval
  obtain ⟨v0, vs0, d0, ds0, p0, q0, hargs, rfl, rfl, h0, r0⟩ := trodAll_cons hA
  obtain ⟨v1, vs1, d1, ds1, p1, q1, rfl, rfl, rfl, h1, r1⟩ := trodAll_cons r0
  obtain ⟨v2, vs2, d2, ds2, p2, q2, rfl, rfl, rfl, h2, r2⟩ := trodAll_cons r1
  obtain ⟨v3, vs3, d3, ds3, p3, q3, rfl, rfl, rfl, h3, r3⟩ := trodAll_cons r2
  obtain ⟨rfl, rfl, rfl⟩ := trodAll_nil r3
  obtain rfl : args = #[v0, v1, v2, v3] := by cases args; simp_all
  obtain ⟨rfl, rfl⟩ := trodVars_none hV
  obtain ⟨a0, rfl⟩ := ovKey (hval 0 23 v0 rfl rfl) h0
  obtain ⟨a1, rfl⟩ := ovKey (hval 1 23 v1 rfl rfl) h1
  obtain ⟨a2, rfl⟩ := ovKey (hval 2 23 v2 rfl rfl) h2
  obtain ⟨a3, rfl, rfl, rfl, w3⟩ := open_int Tryd.underlying3 (hval 3 3 v3 rfl rfl) h3
  refine (Dh.halves a0 a1 a2 a3 w3 W hTab).mono fun e W' ⟨he, bel⟩ => ?_
  subst he
  exact ⟨_, rfl, post_of_below hW' rfl rfl Tryd.underlying4 rfl laidOut (by kernel_rfl) bel⟩

theorem over : Rows.agreeHalvesRow.holds Tryd.pinned (OpenSpec.ofChange Rows.agreeHalvesSpec) :=
  OpenClaim.holds_of_wide 5 Tryd.f5 rfl rfl rfl rfl rfl rfl rfl ⟨rfl, rfl, rfl, rfl, rfl⟩ rfl rfl rfl rfl rfl (by kernel_rfl) Tryd.func5 (by kernel_rfl)
    (of_decide_eq_true (by kernel_rfl)) (by unfold Func.isWrapper; first | (rw [if_pos (by decide +kernel)]; kernel_rfl) | (rw [if_neg (by decide +kernel)]; exact ⟨rfl, rfl⟩))
    (fun os started H enc _ => lifted os started H enc)
theorem proved : Rows.AgreeHalvesSaid := over
end Go.Proofs.YtjlhicopinhiaaaDoor.agreeHalves
namespace Go.Proofs.YtjlhicopinhiaaaDoor
theorem agreeHalves_row_holds : Rows.AgreeHalvesSaid := agreeHalves.proved
set_option maxRecDepth 100000 in
/-- The card, under a short name, for the claim. -/
theorem agreeHalves_holds : Rows.AgreeHalvesCardSaid :=
  Claim7.holds_tied_plain_at .later [] [.data] true Rows.agreeHalvesCard.stood.harness Rows.agreeHalvesCard.stood.looks
    agreeHalves_row_holds (fun _ h => by cases h) (by kernel_rfl) (fun _ h => by cases h) agreeHalves_row_tie rfl ⟨rfl, rfl⟩ (by kernel_rfl) rfl
    (fun f fn hf hfn => by
      obtain rfl : f = 5 := Option.some.inj ((show Tryd.prog.funcNamed "pawl/pawllaw14.AgreeHalves" = some 5 by kernel_rfl).symm.trans hf) |>.symm
      obtain rfl : fn = Tryd.f5 := (Option.some.inj (Tryd.func5.symm.trans hfn)).symm
      refine ⟨by kernel_rfl, fun j t ht => ?_⟩
      rw [Tryd.params5] at ht
      have hm : t ∈ [23, 23, 23, 3] := by
        have := Array.mem_of_getElem? ht
        simpa using this
      have k0 : Tryd.prog.wantsStandIn 3 = false := by kernel_rfl
      have k1 : Tryd.prog.wantsStandIn 23 = false := by kernel_rfl
      simp only [List.mem_cons, List.not_mem_nil, or_false] at hm
      rcases hm with h | h | h | h <;> subst h <;> first | exact k0 | exact k1)
    (by kernel_rfl)
end Go.Proofs.YtjlhicopinhiaaaDoor
