/-
  NARROWER THAN 'FOR EVERY INPUT', by the rows' own cells (each row's printed sentence says how): SchemaBack: loops, laid · SchemaOnly: loops, laid · SchemaWhole: loops, laid · SchemaOne: loops, laid · SchemaWraps: loops, laid · SchemaReasons: loops, laid · AgreePacked: laid · AgreeOnly: laid.
  DERIVED. THE GIVEN ROWS OF THIS SEAT. 8 by the template 'for every input the law returns true; each argument reads behind the call as it read before'; 0 by the template 'total and deterministic' (their statements: YtinngljphjdpoaaDoorTotals.lean).
  GIVEN WITH THE SEED: the statements are not yours to turn. If you find one false, say at which input.
  Laid BY PROGRAM, IN A SANDBOX (cutbox-rows.mjs): the forced cells as the released guide's own fill.sh prints them over the translation e1c01d6177a48b09… (all of the seat's roots in one cut). By AI agents, Wed Nov 11 2026. No macro, syntax, notation, axiom, sorry.
-/
import Derived.Test.YtinngljphjdpoaaDoorChecked
import GoSem.PinnedTables
import GoSem.Claim
import GoSem.ClaimJoined
import GoSem.ClaimMapViews
import Derived.JoinedTies
import Derived.KernelRfl
namespace Go.Proofs.YtinngljphjdpoaaDoor
/- THE CELL 'sum', in the pinned program and in every row, IS THE sha256 OF THE DUMP (.gsa) THAT YtinngljphjdpoaaDoorProg.lean LOADS. Nothing in Lean hashes anything: it is a label: what it is worth is what the hold of that sum in a sandbox is worth. -/
noncomputable def Tryd.pinned : Pinned := { name := "ytinngljphjdpoaadoor", sum := "e1c01d6177a48b09d1ac324312caed0ad5d26d1a9b7bd36e3073334e5ca90d1d", checked := Tryd.checked }
namespace Rows
def none {H : Type} : Left H := { results := [], args := [] }

/- WHAT THE LISTED PACKAGE-LEVEL VARIABLES READ AS WHEN THE CALL BEGINS. Each datum BY PROGRAM (the guide's laid-datum.mjs) off the statement by which the dump's own 'gosem.cut.vars' lays the variable. In a bare row this is a premise. The card (YtinngljphjdpoaaDoorCards.lean) ties it to the program's text. -/
def laid_unicode_utf8_acceptRanges {H : Type} : DataW H := .agg [.agg [.lit (.int .u8 128), .lit (.int .u8 191)], .agg [.lit (.int .u8 160), .lit (.int .u8 191)], .agg [.lit (.int .u8 128), .lit (.int .u8 159)], .agg [.lit (.int .u8 144), .lit (.int .u8 191)], .agg [.lit (.int .u8 128), .lit (.int .u8 143)], .agg [.lit (.int .u8 0), .lit (.int .u8 0)], .agg [.lit (.int .u8 0), .lit (.int .u8 0)], .agg [.lit (.int .u8 0), .lit (.int .u8 0)], .agg [.lit (.int .u8 0), .lit (.int .u8 0)], .agg [.lit (.int .u8 0), .lit (.int .u8 0)], .agg [.lit (.int .u8 0), .lit (.int .u8 0)], .agg [.lit (.int .u8 0), .lit (.int .u8 0)], .agg [.lit (.int .u8 0), .lit (.int .u8 0)], .agg [.lit (.int .u8 0), .lit (.int .u8 0)], .agg [.lit (.int .u8 0), .lit (.int .u8 0)], .agg [.lit (.int .u8 0), .lit (.int .u8 0)]]
/-- One of Go's own tables, pinned by name: the form's constant. -/
def laid_unicode_utf8_first : DataW Unit := Go.Pinned.utf8First

/-- 'pawllaw08.SchemaBack': WHATEVER THE INPUT: true; the input reads as it did. -/
def schemaBackSpec : ChangeSpec := { name := "schemaBack", fn := fun _ => fun
  | [d1, d2] => { results := [.lit (.bool true)], args := [d1, d2] }
  | _ => none }
def schemaBackRow : OpenClaim := { program := "ytinngljphjdpoaadoor", sum := "e1c01d6177a48b09d1ac324312caed0ad5d26d1a9b7bd36e3073334e5ca90d1d", func := "pawl/pawllaw08.SchemaBack", spec := "schemaBack", inPlace := ["math.Float64frombits", "math.Float64bits"], unfollowed := true, recurses := true, named := ["unicode/utf8.first", "unicode/utf8.acceptRanges"], loops := true, apart := false, laid := [("unicode/utf8.acceptRanges", laid_unicode_utf8_acceptRanges), ("unicode/utf8.first", laid_unicode_utf8_first)] }
def SchemaBackSaid : Prop := schemaBackRow.holds Tryd.pinned (OpenSpec.ofChange schemaBackSpec)

/-- ITS FALSE NEIGHBOUR: 'it returns false'. Refute it at one input. -/
def schemaBackWrong : ChangeSpec := { name := "schemaBack", fn := fun _ => fun
  | [d1, d2] => { results := [.lit (.bool false)], args := [d1, d2] }
  | _ => none }
def SchemaBackWrongFalsely : Prop := schemaBackRow.holds Tryd.pinned (OpenSpec.ofChange schemaBackWrong)

/-- 'pawllaw08.SchemaOnly': WHATEVER THE INPUT: true; the input reads as it did. -/
def schemaOnlySpec : ChangeSpec := { name := "schemaOnly", fn := fun _ => fun
  | [d1, d2] => { results := [.lit (.bool true)], args := [d1, d2] }
  | _ => none }
def schemaOnlyRow : OpenClaim := { program := "ytinngljphjdpoaadoor", sum := "e1c01d6177a48b09d1ac324312caed0ad5d26d1a9b7bd36e3073334e5ca90d1d", func := "pawl/pawllaw08.SchemaOnly", spec := "schemaOnly", inPlace := ["math.Float64frombits", "math.Float64bits"], unfollowed := true, recurses := true, named := ["unicode/utf8.first", "unicode/utf8.acceptRanges"], loops := true, apart := false, laid := [("unicode/utf8.acceptRanges", laid_unicode_utf8_acceptRanges), ("unicode/utf8.first", laid_unicode_utf8_first)] }
def SchemaOnlySaid : Prop := schemaOnlyRow.holds Tryd.pinned (OpenSpec.ofChange schemaOnlySpec)

/-- ITS FALSE NEIGHBOUR: 'it returns false'. Refute it at one input. -/
def schemaOnlyWrong : ChangeSpec := { name := "schemaOnly", fn := fun _ => fun
  | [d1, d2] => { results := [.lit (.bool false)], args := [d1, d2] }
  | _ => none }
def SchemaOnlyWrongFalsely : Prop := schemaOnlyRow.holds Tryd.pinned (OpenSpec.ofChange schemaOnlyWrong)

/-- 'pawllaw08.SchemaWhole': WHATEVER THE INPUT: true; the input reads as it did. -/
def schemaWholeSpec : ChangeSpec := { name := "schemaWhole", fn := fun _ => fun
  | [d1, d2, d3, d4] => { results := [.lit (.bool true)], args := [d1, d2, d3, d4] }
  | _ => none }
def schemaWholeRow : OpenClaim := { program := "ytinngljphjdpoaadoor", sum := "e1c01d6177a48b09d1ac324312caed0ad5d26d1a9b7bd36e3073334e5ca90d1d", func := "pawl/pawllaw08.SchemaWhole", spec := "schemaWhole", inPlace := ["math.Float64frombits", "math.Float64bits"], unfollowed := true, recurses := true, named := ["unicode/utf8.first", "unicode/utf8.acceptRanges"], loops := true, apart := false, laid := [("unicode/utf8.acceptRanges", laid_unicode_utf8_acceptRanges), ("unicode/utf8.first", laid_unicode_utf8_first)] }
def SchemaWholeSaid : Prop := schemaWholeRow.holds Tryd.pinned (OpenSpec.ofChange schemaWholeSpec)

/-- ITS FALSE NEIGHBOUR: 'it returns false'. Refute it at one input. -/
def schemaWholeWrong : ChangeSpec := { name := "schemaWhole", fn := fun _ => fun
  | [d1, d2, d3, d4] => { results := [.lit (.bool false)], args := [d1, d2, d3, d4] }
  | _ => none }
def SchemaWholeWrongFalsely : Prop := schemaWholeRow.holds Tryd.pinned (OpenSpec.ofChange schemaWholeWrong)

/-- 'pawllaw08.SchemaOne': WHATEVER THE INPUT: true; the input reads as it did. -/
def schemaOneSpec : ChangeSpec := { name := "schemaOne", fn := fun _ => fun
  | [d1, d2, d3] => { results := [.lit (.bool true)], args := [d1, d2, d3] }
  | _ => none }
def schemaOneRow : OpenClaim := { program := "ytinngljphjdpoaadoor", sum := "e1c01d6177a48b09d1ac324312caed0ad5d26d1a9b7bd36e3073334e5ca90d1d", func := "pawl/pawllaw08.SchemaOne", spec := "schemaOne", inPlace := ["math.Float64frombits", "math.Float64bits"], unfollowed := true, recurses := true, named := ["unicode/utf8.first", "unicode/utf8.acceptRanges"], loops := true, apart := false, laid := [("unicode/utf8.acceptRanges", laid_unicode_utf8_acceptRanges), ("unicode/utf8.first", laid_unicode_utf8_first)] }
def SchemaOneSaid : Prop := schemaOneRow.holds Tryd.pinned (OpenSpec.ofChange schemaOneSpec)

/-- ITS FALSE NEIGHBOUR: 'it returns false'. Refute it at one input. -/
def schemaOneWrong : ChangeSpec := { name := "schemaOne", fn := fun _ => fun
  | [d1, d2, d3] => { results := [.lit (.bool false)], args := [d1, d2, d3] }
  | _ => none }
def SchemaOneWrongFalsely : Prop := schemaOneRow.holds Tryd.pinned (OpenSpec.ofChange schemaOneWrong)

/-- 'pawllaw08.SchemaWraps': WHATEVER THE INPUT: true; the input reads as it did. -/
def schemaWrapsSpec : ChangeSpec := { name := "schemaWraps", fn := fun _ => fun
  | [d1, d2, d3] => { results := [.lit (.bool true)], args := [d1, d2, d3] }
  | _ => none }
def schemaWrapsRow : OpenClaim := { program := "ytinngljphjdpoaadoor", sum := "e1c01d6177a48b09d1ac324312caed0ad5d26d1a9b7bd36e3073334e5ca90d1d", func := "pawl/pawllaw08.SchemaWraps", spec := "schemaWraps", inPlace := ["math.Float64frombits", "math.Float64bits"], unfollowed := true, recurses := true, named := ["unicode/utf8.first", "unicode/utf8.acceptRanges"], loops := true, apart := false, laid := [("unicode/utf8.acceptRanges", laid_unicode_utf8_acceptRanges), ("unicode/utf8.first", laid_unicode_utf8_first)] }
def SchemaWrapsSaid : Prop := schemaWrapsRow.holds Tryd.pinned (OpenSpec.ofChange schemaWrapsSpec)

/-- ITS FALSE NEIGHBOUR: 'it returns false'. Refute it at one input. -/
def schemaWrapsWrong : ChangeSpec := { name := "schemaWraps", fn := fun _ => fun
  | [d1, d2, d3] => { results := [.lit (.bool false)], args := [d1, d2, d3] }
  | _ => none }
def SchemaWrapsWrongFalsely : Prop := schemaWrapsRow.holds Tryd.pinned (OpenSpec.ofChange schemaWrapsWrong)

/-- 'pawllaw08.SchemaReasons': WHATEVER THE INPUT: true; the input reads as it did. -/
def schemaReasonsSpec : ChangeSpec := { name := "schemaReasons", fn := fun _ => fun
  | [d1, d2] => { results := [.lit (.bool true)], args := [d1, d2] }
  | _ => none }
def schemaReasonsRow : OpenClaim := { program := "ytinngljphjdpoaadoor", sum := "e1c01d6177a48b09d1ac324312caed0ad5d26d1a9b7bd36e3073334e5ca90d1d", func := "pawl/pawllaw08.SchemaReasons", spec := "schemaReasons", inPlace := ["math.Float64frombits", "math.Float64bits", "internal/reflectlite.TypeOf"], unfollowed := true, recurses := true, named := ["unicode/utf8.first", "unicode/utf8.acceptRanges"], loops := true, apart := false, laid := [("unicode/utf8.acceptRanges", laid_unicode_utf8_acceptRanges), ("unicode/utf8.first", laid_unicode_utf8_first)] }
def SchemaReasonsSaid : Prop := schemaReasonsRow.holds Tryd.pinned (OpenSpec.ofChange schemaReasonsSpec)

/-- ITS FALSE NEIGHBOUR: 'it returns false'. Refute it at one input. -/
def schemaReasonsWrong : ChangeSpec := { name := "schemaReasons", fn := fun _ => fun
  | [d1, d2] => { results := [.lit (.bool false)], args := [d1, d2] }
  | _ => none }
def SchemaReasonsWrongFalsely : Prop := schemaReasonsRow.holds Tryd.pinned (OpenSpec.ofChange schemaReasonsWrong)

/-- 'pawllaw14.AgreePacked': WHATEVER THE INPUT: true; the input reads as it did. -/
def agreePackedSpec : ChangeSpec := { name := "agreePacked", fn := fun _ => fun
  | [d] => { results := [.lit (.bool true)], args := [d] }
  | _ => none }
def agreePackedRow : OpenClaim := { program := "ytinngljphjdpoaadoor", sum := "e1c01d6177a48b09d1ac324312caed0ad5d26d1a9b7bd36e3073334e5ca90d1d", func := "pawl/pawllaw14.AgreePacked", spec := "agreePacked", inPlace := ["math.Float64frombits", "math.Float64bits"], unfollowed := true, recurses := true, named := ["unicode/utf8.first", "unicode/utf8.acceptRanges"], apart := false, laid := [("unicode/utf8.acceptRanges", laid_unicode_utf8_acceptRanges), ("unicode/utf8.first", laid_unicode_utf8_first)] }
def AgreePackedSaid : Prop := agreePackedRow.holds Tryd.pinned (OpenSpec.ofChange agreePackedSpec)

/-- ITS FALSE NEIGHBOUR: 'it returns false'. Refute it at one input. -/
def agreePackedWrong : ChangeSpec := { name := "agreePacked", fn := fun _ => fun
  | [d] => { results := [.lit (.bool false)], args := [d] }
  | _ => none }
def AgreePackedWrongFalsely : Prop := agreePackedRow.holds Tryd.pinned (OpenSpec.ofChange agreePackedWrong)

/-- 'pawllaw14.AgreeOnly': WHATEVER THE INPUT: true; the input reads as it did. -/
def agreeOnlySpec : ChangeSpec := { name := "agreeOnly", fn := fun _ => fun
  | [d] => { results := [.lit (.bool true)], args := [d] }
  | _ => none }
def agreeOnlyRow : OpenClaim := { program := "ytinngljphjdpoaadoor", sum := "e1c01d6177a48b09d1ac324312caed0ad5d26d1a9b7bd36e3073334e5ca90d1d", func := "pawl/pawllaw14.AgreeOnly", spec := "agreeOnly", inPlace := ["math.Float64frombits", "math.Float64bits"], unfollowed := true, recurses := true, named := ["unicode/utf8.first", "unicode/utf8.acceptRanges"], apart := false, laid := [("unicode/utf8.acceptRanges", laid_unicode_utf8_acceptRanges), ("unicode/utf8.first", laid_unicode_utf8_first)] }
def AgreeOnlySaid : Prop := agreeOnlyRow.holds Tryd.pinned (OpenSpec.ofChange agreeOnlySpec)

/-- ITS FALSE NEIGHBOUR: 'it returns false'. Refute it at one input. -/
def agreeOnlyWrong : ChangeSpec := { name := "agreeOnly", fn := fun _ => fun
  | [d] => { results := [.lit (.bool false)], args := [d] }
  | _ => none }
def AgreeOnlyWrongFalsely : Prop := agreeOnlyRow.holds Tryd.pinned (OpenSpec.ofChange agreeOnlyWrong)

/- THE SECOND FORM. 'bulk': how many values and letters a reading holds, each counted each time it is reached (what is shared counts as often as it is met; a slice's spare places count too). A statement '..UptoSaid' is the law's where the arguments, and the package variables that the reading takes, are together of bulk at most 1048576: NARROWER than '..Said'. Prove '..Said' where nothing that the law and all that it calls make is longer than what came in: it says more and counts as full. Else prove '..UptoSaid'. A law counts once. -/
mutual
def uptoBulk {H : Type} : DataW H → Nat
  | .lit (.string bytes) => bytes.length + 1
  | .lit _ => 1
  | .nil => 1
  | .ptr d => uptoBulk d + 1
  | .slice elems spare => uptoBulkAll elems + uptoBulkAll spare + 1
  | .agg parts => uptoBulkAll parts + 1
  | .iface _ d => uptoBulk d + 1
  | .map entries => uptoBulkEntries entries + 1
  | .held _ => 1
def uptoBulkAll {H : Type} : List (DataW H) → Nat
  | [] => 0
  | d :: r => uptoBulk d + uptoBulkAll r
def uptoBulkEntries {H : Type} : List (Lit × DataW H) → Nat
  | [] => 0
  | x :: r => uptoBulkEntry x + uptoBulkEntries r
def uptoBulkEntry {H : Type} : Lit × DataW H → Nat
  | (.string bytes, d) => bytes.length + uptoBulk d + 1
  | (_, d) => uptoBulk d + 1
 end
def uptoSmall : (H : Type) → List (DataW H) → Bool := fun _ ds => decide (uptoBulkAll ds ≤ 1048576)
def OpenSpec.upto (s : _root_.Go.ChangeSpec) : _root_.Go.OpenSpec := { _root_.Go.OpenSpec.ofChange s with cond := some uptoSmall }

/-- 'pawllaw08.SchemaBack', WHERE WHAT IT READS IS OF BULK AT MOST 1048576: true; the input reads as it did. -/
def schemaBackUptoRow : OpenClaim := { program := "ytinngljphjdpoaadoor", sum := "e1c01d6177a48b09d1ac324312caed0ad5d26d1a9b7bd36e3073334e5ca90d1d", func := "pawl/pawllaw08.SchemaBack", spec := "schemaBack", inPlace := ["math.Float64frombits", "math.Float64bits"], unfollowed := true, recurses := true, named := ["unicode/utf8.first", "unicode/utf8.acceptRanges"], loops := true, apart := false, laid := [("unicode/utf8.acceptRanges", laid_unicode_utf8_acceptRanges), ("unicode/utf8.first", laid_unicode_utf8_first)], narrowed := true }
def SchemaBackUptoSaid : Prop := schemaBackUptoRow.holds Tryd.pinned (OpenSpec.upto schemaBackSpec)

/-- 'pawllaw08.SchemaOnly', WHERE WHAT IT READS IS OF BULK AT MOST 1048576: true; the input reads as it did. -/
def schemaOnlyUptoRow : OpenClaim := { program := "ytinngljphjdpoaadoor", sum := "e1c01d6177a48b09d1ac324312caed0ad5d26d1a9b7bd36e3073334e5ca90d1d", func := "pawl/pawllaw08.SchemaOnly", spec := "schemaOnly", inPlace := ["math.Float64frombits", "math.Float64bits"], unfollowed := true, recurses := true, named := ["unicode/utf8.first", "unicode/utf8.acceptRanges"], loops := true, apart := false, laid := [("unicode/utf8.acceptRanges", laid_unicode_utf8_acceptRanges), ("unicode/utf8.first", laid_unicode_utf8_first)], narrowed := true }
def SchemaOnlyUptoSaid : Prop := schemaOnlyUptoRow.holds Tryd.pinned (OpenSpec.upto schemaOnlySpec)

/-- 'pawllaw08.SchemaWhole', WHERE WHAT IT READS IS OF BULK AT MOST 1048576: true; the input reads as it did. -/
def schemaWholeUptoRow : OpenClaim := { program := "ytinngljphjdpoaadoor", sum := "e1c01d6177a48b09d1ac324312caed0ad5d26d1a9b7bd36e3073334e5ca90d1d", func := "pawl/pawllaw08.SchemaWhole", spec := "schemaWhole", inPlace := ["math.Float64frombits", "math.Float64bits"], unfollowed := true, recurses := true, named := ["unicode/utf8.first", "unicode/utf8.acceptRanges"], loops := true, apart := false, laid := [("unicode/utf8.acceptRanges", laid_unicode_utf8_acceptRanges), ("unicode/utf8.first", laid_unicode_utf8_first)], narrowed := true }
def SchemaWholeUptoSaid : Prop := schemaWholeUptoRow.holds Tryd.pinned (OpenSpec.upto schemaWholeSpec)

/-- 'pawllaw08.SchemaOne', WHERE WHAT IT READS IS OF BULK AT MOST 1048576: true; the input reads as it did. -/
def schemaOneUptoRow : OpenClaim := { program := "ytinngljphjdpoaadoor", sum := "e1c01d6177a48b09d1ac324312caed0ad5d26d1a9b7bd36e3073334e5ca90d1d", func := "pawl/pawllaw08.SchemaOne", spec := "schemaOne", inPlace := ["math.Float64frombits", "math.Float64bits"], unfollowed := true, recurses := true, named := ["unicode/utf8.first", "unicode/utf8.acceptRanges"], loops := true, apart := false, laid := [("unicode/utf8.acceptRanges", laid_unicode_utf8_acceptRanges), ("unicode/utf8.first", laid_unicode_utf8_first)], narrowed := true }
def SchemaOneUptoSaid : Prop := schemaOneUptoRow.holds Tryd.pinned (OpenSpec.upto schemaOneSpec)

/-- 'pawllaw08.SchemaWraps', WHERE WHAT IT READS IS OF BULK AT MOST 1048576: true; the input reads as it did. -/
def schemaWrapsUptoRow : OpenClaim := { program := "ytinngljphjdpoaadoor", sum := "e1c01d6177a48b09d1ac324312caed0ad5d26d1a9b7bd36e3073334e5ca90d1d", func := "pawl/pawllaw08.SchemaWraps", spec := "schemaWraps", inPlace := ["math.Float64frombits", "math.Float64bits"], unfollowed := true, recurses := true, named := ["unicode/utf8.first", "unicode/utf8.acceptRanges"], loops := true, apart := false, laid := [("unicode/utf8.acceptRanges", laid_unicode_utf8_acceptRanges), ("unicode/utf8.first", laid_unicode_utf8_first)], narrowed := true }
def SchemaWrapsUptoSaid : Prop := schemaWrapsUptoRow.holds Tryd.pinned (OpenSpec.upto schemaWrapsSpec)

/-- 'pawllaw08.SchemaReasons', WHERE WHAT IT READS IS OF BULK AT MOST 1048576: true; the input reads as it did. -/
def schemaReasonsUptoRow : OpenClaim := { program := "ytinngljphjdpoaadoor", sum := "e1c01d6177a48b09d1ac324312caed0ad5d26d1a9b7bd36e3073334e5ca90d1d", func := "pawl/pawllaw08.SchemaReasons", spec := "schemaReasons", inPlace := ["math.Float64frombits", "math.Float64bits", "internal/reflectlite.TypeOf"], unfollowed := true, recurses := true, named := ["unicode/utf8.first", "unicode/utf8.acceptRanges"], loops := true, apart := false, laid := [("unicode/utf8.acceptRanges", laid_unicode_utf8_acceptRanges), ("unicode/utf8.first", laid_unicode_utf8_first)], narrowed := true }
def SchemaReasonsUptoSaid : Prop := schemaReasonsUptoRow.holds Tryd.pinned (OpenSpec.upto schemaReasonsSpec)

/-- 'pawllaw14.AgreePacked', WHERE WHAT IT READS IS OF BULK AT MOST 1048576: true; the input reads as it did. -/
def agreePackedUptoRow : OpenClaim := { program := "ytinngljphjdpoaadoor", sum := "e1c01d6177a48b09d1ac324312caed0ad5d26d1a9b7bd36e3073334e5ca90d1d", func := "pawl/pawllaw14.AgreePacked", spec := "agreePacked", inPlace := ["math.Float64frombits", "math.Float64bits"], unfollowed := true, recurses := true, named := ["unicode/utf8.first", "unicode/utf8.acceptRanges"], apart := false, laid := [("unicode/utf8.acceptRanges", laid_unicode_utf8_acceptRanges), ("unicode/utf8.first", laid_unicode_utf8_first)], narrowed := true }
def AgreePackedUptoSaid : Prop := agreePackedUptoRow.holds Tryd.pinned (OpenSpec.upto agreePackedSpec)

/-- 'pawllaw14.AgreeOnly', WHERE WHAT IT READS IS OF BULK AT MOST 1048576: true; the input reads as it did. -/
def agreeOnlyUptoRow : OpenClaim := { program := "ytinngljphjdpoaadoor", sum := "e1c01d6177a48b09d1ac324312caed0ad5d26d1a9b7bd36e3073334e5ca90d1d", func := "pawl/pawllaw14.AgreeOnly", spec := "agreeOnly", inPlace := ["math.Float64frombits", "math.Float64bits"], unfollowed := true, recurses := true, named := ["unicode/utf8.first", "unicode/utf8.acceptRanges"], apart := false, laid := [("unicode/utf8.acceptRanges", laid_unicode_utf8_acceptRanges), ("unicode/utf8.first", laid_unicode_utf8_first)], narrowed := true }
def AgreeOnlyUptoSaid : Prop := agreeOnlyUptoRow.holds Tryd.pinned (OpenSpec.upto agreeOnlySpec)

end Rows
end Go.Proofs.YtinngljphjdpoaaDoor
