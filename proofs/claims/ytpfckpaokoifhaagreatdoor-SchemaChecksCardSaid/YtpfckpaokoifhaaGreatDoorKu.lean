/- What the laid variables give: the tables of utf8, the handle of errors; a world that has them. -/
import Derived.Test.YtpfckpaokoifhaaGreatDoorRows
import Derived.Test.YtpfckpaokoifhaaGreatDoorFz
import Derived.Test.YtpfckpaokoifhaaGreatDoorVh
import Derived.Lib.LaidU8T
import Derived.LaidHandle
import Derived.LaidLaws
import Derived.LaidMore
import Derived.Lay
namespace Go.Proofs.YtpfckpaokoifhaaGreatDoor.Ku
open Go Go.RowKit Go.Lib
set_option linter.unusedVariables false
set_option maxRecDepth 100000
/-- The listed variables. -/
def LL : List (String × DataW Unit) := [("unicode/utf8.acceptRanges", Rows.laid_unicode_utf8_acceptRanges), ("errors.errorType", Rows.laid_errors_errorType), ("unicode/utf8.first", Rows.laid_unicode_utf8_first)]
def dataL : List (String × DataW Unit) := [("unicode/utf8.acceptRanges", Rows.laid_unicode_utf8_acceptRanges), ("unicode/utf8.first", Rows.laid_unicode_utf8_first)]
def hdL : List (String × DataW Unit) := [("errors.errorType", Rows.laid_errors_errorType)]
theorem filt_data : (LL.filter fun x => x.2.handleName?.isNone) = dataL := by kernel_rfl
theorem filt_hd : (LL.filter fun x => x.2.handleName?.isSome) = hdL := by kernel_rfl
theorem split_met {W : World} (h : laidMetH Tryz.prog LL W) : laidMet Tryz.prog dataL W ∧ handlesMet Tryz.prog hdL W := by
  unfold laidMetH at h
  rw [filt_hd, filt_data] at h
  exact h
/-- The names of a library's types and variables in this program. -/
def ρ : Go.Shelf.Ren := ⟨fun x => x, fun n => if n = 5 then 5 else if n = 119 then 177 else if n = 138 then 179 else 180, fun g => if g = 3 then 2 else 3⟩
theorem types : U8Types Tryz.prog ρ := ⟨Tryz.underlying5, Tryz.underlying177, Tryz.underlying179, Tryz.underlying180⟩
theorem extra : U8Extra Tryz.prog ρ := ⟨by kernel_rfl, by kernel_rfl, by kernel_rfl, by kernel_rfl, by kernel_rfl, by kernel_rfl, by kernel_rfl⟩
theorem first_is : Rows.laid_unicode_utf8_first = firstData := by kernel_rfl
theorem accept_is : (Rows.laid_unicode_utf8_acceptRanges : DataW Unit) = acceptData := by kernel_rfl
theorem tabu_of {W : World} (h : laidMetH Tryz.prog LL W) : Vh.TabU W := by
  have h1 := (split_met h).1
  have h3 : VarReads Tryz.prog W "unicode/utf8.first" firstData := first_is ▸ laidMet.reads h1 (by unfold dataL; simp)
  have h4 : VarReads Tryz.prog W "unicode/utf8.acceptRanges" acceptData := accept_is ▸ laidMet.reads h1 (by unfold dataL; simp)
  exact utf8Tabs_of_readsT types extra h3 h4
theorem et : Tryz.prog.globalNamed "errors.errorType" = some 0 := by kernel_rfl
theorem rt : (Tryz.prog.cutTypes.find? (·.1 == "internal/reflectlite.rtype")).map (·.2) = some 111 := by kernel_rfl
theorem oneRow : ((List.range Tryz.prog.types.size).filter fun t => Tryz.prog.rowNamed t [101, 114, 114, 111, 114]) = [37] := by kernel_rfl
theorem et_of {W : World} (h : laidMetH Tryz.prog LL W) : Fz.Et W := by
  have h' := (split_met h).2
  obtain ⟨name, u, ty, e1, e2, e3, e4, e5⟩ := h' _ (List.mem_singleton.2 rfl)
  have en : name = [101, 114, 114, 111, 114] := (Option.some.inj e1).symm
  subst en
  obtain rfl := Option.some.inj (rt.symm.trans e2)
  have hm : ty ∈ (List.range Tryz.prog.types.size).filter fun t => Tryz.prog.rowNamed t [101, 114, 114, 111, 114] := List.mem_filter.2 ⟨List.mem_range.2 e3, e4⟩
  rw [oneRow] at hm
  obtain rfl := List.mem_singleton.1 hm
  have hh : typeHandle Tryz.prog 37 = .pointer (some ⟨4, 37, none⟩) := by kernel_rfl
  rw [hh] at e5
  have := World.var?_cell et e5 0
  unfold Fz.Et
  simpa using this
/-- A world that has them. -/
noncomputable def start (os : Os) : World := (World.doorLaid Tryz.prog 400 os).layVars Tryz.prog dataL
theorem start_os (os : Os) : (start os).os = os := (World.layVars_os _ _ _).trans rfl
theorem great_all : (dataL.filter fun x => ["unicode/utf8.acceptRanges", "unicode/utf8.first"].contains x.1) = dataL := by kernel_rfl
theorem great_none : (dataL.filter fun x => !["unicode/utf8.acceptRanges", "unicode/utf8.first"].contains x.1) = [] := by kernel_rfl
theorem start_data (os : Os) : laidMet Tryz.prog dataL (start os) :=
  laidMet_layVars (w0 := World.doorLaid Tryz.prog 400 os) ["unicode/utf8.acceptRanges", "unicode/utf8.first"] [] (by rw [great_all]; rfl) (by rw [great_all]; kernel_rfl) (by rw [great_all]; kernel_rfl) (by rw [great_none]; exact LaidIn.none)
theorem start_met (os : Os) (args : Array Value) : laidMetH Tryz.prog LL ((start os).forCall (fun _ _ => 0) ⟨#[], args, []⟩).memory := by
  refine laidMetH_of_parts ?_ ?_
  · rw [filt_data]
    exact (start_data os).of_heap (by simp [World.memory, World.forCall, Input.heap])
  · rw [filt_hd]
    kernel_rfl
end Go.Proofs.YtpfckpaokoifhaaGreatDoor.Ku
