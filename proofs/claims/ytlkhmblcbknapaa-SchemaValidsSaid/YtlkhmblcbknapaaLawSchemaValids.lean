/- The law SchemaValids: for every input the call returns true, and the arguments read behind it as before. Its conditions are the given row's own. -/
import Derived.Test.YtlkhmblcbknapaaRows
import Derived.Test.YtlkhmblcbknapaaVw
import Derived.Test.YtlkhmblcbknapaaRs
import Derived.Test.YtlkhmblcbknapaaPl
namespace Go.Proofs.Ytlkhmblcbknapaa.schemaValids
open Go.ChangeShapes Go.WideShapes Go.ChangeAt Go.RowKit Go.Proofs.Ytlkhmblcbknapaa.Pa Go.Proofs.Ytlkhmblcbknapaa.Pl
open Go.ChangeMaps (open_string shut_string)
set_option linter.unusedVariables false
theorem ts : Rs.TS Try.prog 22 35 3 33 := ⟨Try.underlying22, ⟨_, Try.underlying35, by kernel_rfl, by kernel_rfl⟩, Try.underlying3, Try.underlying33, by kernel_rfl⟩
theorem own : ownKnob Try.prog.godebug = none := by kernel_rfl
theorem laidOut : laidOutB Try.prog = true := by kernel_rfl
set_option maxRecDepth 100000 in
theorem lifted (os : Os) (started : os.Started) (H : Type) (enc : TypeId × Value → H) :
    ReturnsInHanded {} Try.checked os 3 .any (Rows.schemaValidsSpec.pre6 enc Try.prog Try.f3 Rows.schemaValidsRow.domain false) (Rows.schemaValidsSpec.post enc Try.prog Try.f3 false true false false) := by
  refine returnsInHanded_of_change_sized (C := Try.checked) own started (by kernel_rfl) Try.func3
    (ChangeSpec.witness6 (enc := enc) (C := Try.checked) false ⟨#[], #[.slice none 0 0], []⟩ 8 (by kernel_rfl) (by kernel_rfl) (by kernel_rfl) (by kernel_rfl)) ?_
  intro W base args ds gs before hval0 hW hcnd hsz0 _
  have hval : ∀ (j : Nat) t v, Try.f3.params[j]? = some t → args[j]? = some v → Value.okWide Try.prog W .any base t v := hval0
  have hW' := hW
  obtain ⟨p, q, hA0, hV, rfl, hfz, hnd⟩ := hW
  have hA : DataW.TrodAll enc Try.prog W 0 (fun _ => true) true Try.f3.params.toList args.toList ds p := hA0
  rw [Try.params3] at hA hval
  obtain ⟨v0, vs0, d0, ds0, p0, q0, hargs, rfl, rfl, h0, r0⟩ := trodAll_cons hA
  obtain ⟨rfl, rfl, rfl⟩ := trodAll_nil r0
  obtain rfl : args = #[v0] := by cases args; simp_all
  obtain ⟨rfl, rfl⟩ := trodVars_none hV
  obtain ⟨n0, l0, w0⟩ := Rs.open_schema ts (hval 0 22 v0 rfl rfl) h0
  refine (Vw.walk W w0).mono fun e W' ⟨he, bel⟩ => ?_
  subst he
  exact ⟨_, rfl, post_of_below hW' rfl rfl Try.underlying4 rfl laidOut (by kernel_rfl) bel⟩

theorem over : Rows.schemaValidsRow.holds Try.pinned (OpenSpec.ofChange Rows.schemaValidsSpec) :=
  OpenClaim.holds_of_wide 3 Try.f3 rfl rfl rfl rfl rfl rfl rfl ⟨rfl, rfl, rfl, rfl, rfl⟩ rfl rfl rfl rfl rfl (by kernel_rfl) Try.func3 (by kernel_rfl)
    (of_decide_eq_true (by kernel_rfl)) (by unfold Func.isWrapper; first | (rw [if_pos (by decide +kernel)]; kernel_rfl) | (rw [if_neg (by decide +kernel)]; exact ⟨rfl, rfl⟩))
    (fun os started H enc _ => lifted os started H enc)
theorem proved : Rows.SchemaValidsSaid := over
end Go.Proofs.Ytlkhmblcbknapaa.schemaValids
namespace Go.Proofs.Ytlkhmblcbknapaa
/-- The row, under a short name, for the claim. -/
theorem schemaValids_holds : Rows.SchemaValidsSaid := schemaValids.proved
end Go.Proofs.Ytlkhmblcbknapaa
