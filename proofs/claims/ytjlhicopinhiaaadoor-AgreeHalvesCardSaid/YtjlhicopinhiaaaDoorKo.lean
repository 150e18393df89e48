/- A key that came in, opened; the laid table, read. No conditions. -/
import Derived.Test.YtjlhicopinhiaaaDoorRows
import Derived.Test.YtjlhicopinhiaaaDoorPl
import Derived.Test.YtjlhicopinhiaaaDoorSk
import Derived.Lib.LaidTab
import Derived.MakeChecks
namespace Go.Proofs.YtjlhicopinhiaaaDoor.Ko
open Go Go.RowKit Go.ChangeShapes Go.WideShapes Go.ChangeAt Go.Proofs.YtjlhicopinhiaaaDoor.Pa Go.Proofs.YtjlhicopinhiaaaDoor.Pl Go.Proofs.YtjlhicopinhiaaaDoor.Sh Go.Proofs.YtjlhicopinhiaaaDoor.Sv Go.Proofs.YtjlhicopinhiaaaDoor.Sk
set_option linter.unusedSimpArgs false
set_option linter.unusedVariables false
theorem opKey {H : Type} {enc : TypeId × Value → H} {w : World} {base : Nat} {spare : Nat → Bool} {held : Bool} {fuel : Nat} {cs : List Value} {x : DataW H × List MemPlace} (h : DataW.trod enc Tryd.prog w base spare held fuel 23 cs = some x) : ∃ k : Vector UInt8 32, cs = (bv k).toList :=
  open_bytes Tryd.underlying23 Tryd.underlying5 (by kernel_rfl) (by kernel_rfl) h
theorem ovKey {H : Type} {enc : TypeId × Value → H} {w : World} {base b0 : Nat} {r : Reach} {spare : Nat → Bool} {held : Bool} {v : Value} {d : DataW H} {ps : List MemPlace} (hv : Value.okWide Tryd.prog w r b0 23 v) (h : DataW.Trod enc Tryd.prog w base spare held 23 v d ps) : ∃ k : Vector UInt8 32, v = .agg (bv k) := by
  obtain ⟨cs, rfl⟩ := okWide_arr Tryd.underlying23 hv
  obtain ⟨m, hm⟩ := h
  obtain ⟨k, hk⟩ := opKey hm
  exact ⟨k, agg_of_list rfl (by simpa [Value.cells] using hk)⟩
def zsK : List Int := (List.range 64).map fun i => uw (Kc i)
theorem laid_is : (Rows.laid_pawl_hash_table : DataW Unit) = Lib.tabData .u32 zsK := by kernel_rfl
theorem gT : Tryd.prog.globalNamed "pawl/hash.table" = some 1 := by kernel_rfl
theorem gTType : (Tryd.prog.globals[1]?).map (·.type) = some 56 := by kernel_rfl
theorem tab_of {rest : List (String × DataW Unit)} {W : World} (h : laidMet Tryd.prog (("pawl/hash.table", Rows.laid_pawl_hash_table) :: rest) W) : Tab W := by
  rw [laid_is] at h
  have hT := Lib.tabIs_of_head gT gTType Tryd.underlying56 Tryd.underlying45 (by kernel_rfl) (by kernel_rfl) h
  intro i hi
  rw [hT.cell gT i (by simp [zsK]; exact hi)]
  simp [zsK, List.getD, hi]
end Go.Proofs.YtjlhicopinhiaaaDoor.Ko
