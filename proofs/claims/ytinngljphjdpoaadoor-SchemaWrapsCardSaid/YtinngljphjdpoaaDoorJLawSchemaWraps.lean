/- The law SchemaWraps: for every input the call returns true, and the arguments read behind it as before. Its conditions are the given row's own. -/
import Derived.Test.YtinngljphjdpoaaDoorRows
import Derived.Test.YtinngljphjdpoaaDoorCards
import Derived.Test.YtinngljphjdpoaaDoorTie
import Derived.Test.YtinngljphjdpoaaDoorJWw
import Derived.Test.YtinngljphjdpoaaDoorJHv
import Derived.Test.YtinngljphjdpoaaDoorJRs
import Derived.Test.YtinngljphjdpoaaDoorJPl
import Derived.Test.YtinngljphjdpoaaDoorJKd
import Derived.Lay
import Derived.LaidMore
import Derived.ProofKit
import Derived.MakeChecks
namespace Go.Proofs.YtinngljphjdpoaaDoor.schemaWraps
open Go.ChangeShapes Go.WideShapes Go.ChangeAt Go.RowKit Go.Proofs.YtinngljphjdpoaaDoor.Pa Go.Proofs.YtinngljphjdpoaaDoor.Pl Go.Proofs.YtinngljphjdpoaaDoor.Pl
open Go.ChangeMaps (open_string shut_string)
set_option linter.unusedVariables false
theorem ts : Rs.TS Tryd.prog 22 53 3 23 := ⟨Tryd.underlying22, ⟨_, Tryd.underlying53, by kernel_rfl, by kernel_rfl⟩, Tryd.underlying3, Tryd.underlying23, by kernel_rfl⟩
theorem tv : Vo.TV Tryd.prog 25 27 23 24 5 := ⟨Tryd.underlying25, ⟨_, Tryd.underlying27, by kernel_rfl, by kernel_rfl⟩, Tryd.underlying23, Tryd.underlying24, Tryd.underlying5, by kernel_rfl, by kernel_rfl⟩
theorem own : ownKnob Tryd.prog.godebug = none := by kernel_rfl
theorem laidOut : laidOutB Tryd.prog = true := by kernel_rfl
theorem laid_is : Rows.schemaWrapsRow.laid = Kd.dataL := rfl
theorem door_met (os : Os) (args : Array Value) : laidMetH Tryd.prog Rows.schemaWrapsRow.laid ((Kd.start os).forCall (fun _ _ => 0) ⟨#[], args, []⟩).memory := by
  rw [laid_is]; exact Kd.data_met os args
set_option maxRecDepth 100000 in
theorem lifted (os : Os) (started : os.Started) (H : Type) (enc : TypeId × Value → H) :
    ReturnsInHanded {} Tryd.checked os 7 .any (fun w args => (Rows.schemaWrapsSpec.pre enc Tryd.prog Tryd.f7 [] false w args ∧ laidMetH Tryd.prog Rows.schemaWrapsRow.laid w) ∧ sizedMet enc Tryd.prog Tryd.f7 (OpenSpec.ofChange Rows.schemaWrapsSpec) false w args) (Rows.schemaWrapsSpec.post enc Tryd.prog Tryd.f7 false true false false) := by
  refine returnsInHanded_of_change_and (C := Tryd.checked) (X := fun w _ => laidMetH Tryd.prog Rows.schemaWrapsRow.laid w) (fun _ _ _ hh h => h.of_heap hh) own started (by kernel_rfl) Tryd.func7
    (ChangeSpec.witness_shaped (enc := enc) (C := Tryd.checked) (os := os) (X := fun w _ => laidMetH Tryd.prog Rows.schemaWrapsRow.laid w) false (Kd.start os) #[.slice none 0 0, .agg #[.int .u64 0, .slice none 0 0, .slice none 0 0], .int .i64 0] 8 (Kd.start_os _) (World.shaped_of_ZipB (by kernel_rfl) (by kernel_rfl)) (by kernel_rfl) (by kernel_rfl) (by kernel_rfl) (door_met os _)) ?_
  intro W base args ds gs before hval0 hW hcnd hsz0 hL _
  have hval : ∀ (j : Nat) t v, Tryd.f7.params[j]? = some t → args[j]? = some v → Value.okWide Tryd.prog W .any base t v := hval0
  have hW' := hW
  obtain ⟨p, q, hA0, hV, rfl, hfz, hnd⟩ := hW
  have hA : DataW.TrodAll enc Tryd.prog W 0 (fun _ => true) true Tryd.f7.params.toList args.toList ds p := hA0
  rw [Tryd.params7] at hA hval
  obtain ⟨v0, vs0, d0, ds0, p0, q0, hargs, rfl, rfl, h0, r0⟩ := trodAll_cons hA
  obtain ⟨v1, vs1, d1, ds1, p1, q1, rfl, rfl, rfl, h1, r1⟩ := trodAll_cons r0
  obtain ⟨v2, vs2, d2, ds2, p2, q2, rfl, rfl, rfl, h2, r2⟩ := trodAll_cons r1
  obtain ⟨rfl, rfl, rfl⟩ := trodAll_nil r2
  obtain rfl : args = #[v0, v1, v2] := by cases args; simp_all
  obtain ⟨rfl, rfl⟩ := trodVars_none hV
  obtain ⟨n0, l0, w0⟩ := Rs.open_schema ts (hval 0 22 v0 rfl rfl) h0
  obtain ⟨n1, nv1, dv1, pv1, x1, rfl, w1⟩ := Vo.open_value tv (hval 1 27 v1 rfl rfl) h1
  obtain ⟨a2, rfl, rfl, rfl, w2⟩ := open_int Tryd.underlying3 (hval 2 3 v2 rfl rfl) h2
  refine (Ww.walk W w0 w1 a2 w2 (Kd.tabu_data (laid_is ▸ hL))).mono fun e W' ⟨he, bel⟩ => ?_
  subst he
  exact ⟨_, rfl, post_of_below hW' rfl rfl Tryd.underlying4 rfl laidOut (by kernel_rfl) bel⟩

theorem over : Rows.schemaWrapsRow.holds Tryd.pinned (OpenSpec.ofChange Rows.schemaWrapsSpec) :=
  OpenClaim.holds_of_wide 7 Tryd.f7 rfl rfl rfl rfl rfl rfl rfl ⟨rfl, rfl, rfl, rfl, rfl⟩ rfl rfl rfl rfl rfl (by kernel_rfl) Tryd.func7 (by kernel_rfl)
    (of_decide_eq_true (by kernel_rfl)) (by unfold Func.isWrapper; first | (rw [if_pos (by decide +kernel)]; kernel_rfl) | (rw [if_neg (by decide +kernel)]; exact ⟨rfl, rfl⟩))
    (fun os started H enc _ => lifted os started H enc)
theorem proved : Rows.SchemaWrapsSaid := over
end Go.Proofs.YtinngljphjdpoaaDoor.schemaWraps
namespace Go.Proofs.YtinngljphjdpoaaDoor
theorem schemaWraps_row_holds : Rows.SchemaWrapsSaid := schemaWraps.proved
set_option maxRecDepth 100000 in
/-- The card, under a short name, for the claim. -/
theorem schemaWraps_holds : Rows.SchemaWrapsCardSaid :=
  Claim7.holds_tied_plain_at .later [] Rows.schemaWrapsCard.laidKinds true Rows.schemaWrapsCard.stood.harness Rows.schemaWrapsCard.stood.looks
    schemaWraps_row_holds (fun _ h => by cases h) (by kernel_rfl) (fun _ h => by cases h) schemaWraps_row_tie rfl ⟨rfl, rfl⟩ (by kernel_rfl) rfl
    (fun f fn hf hfn => by
      obtain rfl : f = 7 := Option.some.inj ((show Tryd.prog.funcNamed "pawl/pawllaw08.SchemaWraps" = some 7 by kernel_rfl).symm.trans hf) |>.symm
      obtain rfl : fn = Tryd.f7 := (Option.some.inj (Tryd.func7.symm.trans hfn)).symm
      refine ⟨by kernel_rfl, fun j t ht => ?_⟩
      rw [Tryd.params7] at ht
      have hm : t ∈ [22, 27, 3] := by
        have := Array.mem_of_getElem? ht
        simpa using this
      have k0 : Tryd.prog.wantsStandIn 22 = false := by kernel_rfl
      have k1 : Tryd.prog.wantsStandIn 3 = false := by kernel_rfl
      have k2 : Tryd.prog.wantsStandIn 27 = false := by kernel_rfl
      simp only [List.mem_cons, List.not_mem_nil, or_false] at hm
      rcases hm with h | h | h <;> subst h <;> first | exact k0 | exact k1 | exact k2)
    (by kernel_rfl)
end Go.Proofs.YtinngljphjdpoaaDoor
