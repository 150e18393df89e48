/-
  NARROWER THAN 'FOR EVERY INPUT', by the rows' own cells (each row's printed sentence says how): SchemaDecodes: loops, laid · AgreePacks: laid · EnvelopeHeaders: laid · SchemaExact: loops, laid · SchemaPlaces: loops, laid · AgreeParses: laid · EnvelopeReads: laid.
  DERIVED. THE GIVEN ROWS OF THIS SEAT. 7 by the template 'for every input the law returns true; each argument reads behind the call as it read before'; 0 by the template 'total and deterministic' (their statements: YtinngljphjdpoaaGreatDoorTotals.lean).
  GIVEN WITH THE SEED: the statements are not yours to turn. If you find one false, say at which input.
  Laid BY PROGRAM, IN A SANDBOX (cutbox-rows.mjs): the forced cells as the released guide's own fill.sh prints them over the translation 736e187b4e5db0f9… (all of the seat's roots in one cut). By AI agents, Wed Nov 11 2026. No macro, syntax, notation, axiom, sorry.
-/
import Derived.Test.YtinngljphjdpoaaGreatDoorChecked
import GoSem.PinnedTables
import GoSem.Claim
import GoSem.ClaimJoined
import GoSem.ClaimMapViews
import Derived.JoinedTies
import Derived.KernelRfl
namespace Go.Proofs.YtinngljphjdpoaaGreatDoor
/- THE CELL 'sum', in the pinned program and in every row, IS THE sha256 OF THE DUMP (.gsa) THAT YtinngljphjdpoaaGreatDoorProg.lean LOADS. Nothing in Lean hashes anything: it is a label: what it is worth is what the hold of that sum in a sandbox is worth. -/
noncomputable def Tryz.pinned : Pinned := { name := "ytinngljphjdpoaagreatdoor", sum := "736e187b4e5db0f949ba72468d6662fba099fb7dadaae279d79348db19217442", checked := Tryz.checked }
namespace Rows
def none {H : Type} : Left H := { results := [], args := [] }

/- WHAT THE LISTED PACKAGE-LEVEL VARIABLES READ AS WHEN THE CALL BEGINS. Each datum BY PROGRAM (the guide's laid-datum.mjs) off the statement by which the dump's own 'gosem.cut.vars' lays the variable. In a bare row this is a premise. The card (YtinngljphjdpoaaGreatDoorCards.lean) ties it to the program's text. -/
def laid_unicode_utf8_acceptRanges {H : Type} : DataW H := .agg [.agg [.lit (.int .u8 128), .lit (.int .u8 191)], .agg [.lit (.int .u8 160), .lit (.int .u8 191)], .agg [.lit (.int .u8 128), .lit (.int .u8 159)], .agg [.lit (.int .u8 144), .lit (.int .u8 191)], .agg [.lit (.int .u8 128), .lit (.int .u8 143)], .agg [.lit (.int .u8 0), .lit (.int .u8 0)], .agg [.lit (.int .u8 0), .lit (.int .u8 0)], .agg [.lit (.int .u8 0), .lit (.int .u8 0)], .agg [.lit (.int .u8 0), .lit (.int .u8 0)], .agg [.lit (.int .u8 0), .lit (.int .u8 0)], .agg [.lit (.int .u8 0), .lit (.int .u8 0)], .agg [.lit (.int .u8 0), .lit (.int .u8 0)], .agg [.lit (.int .u8 0), .lit (.int .u8 0)], .agg [.lit (.int .u8 0), .lit (.int .u8 0)], .agg [.lit (.int .u8 0), .lit (.int .u8 0)], .agg [.lit (.int .u8 0), .lit (.int .u8 0)]]
def laid_errors_errorType {H : Type} : DataW H := .iface "internal/reflectlite.rtype" (.agg [.ptr (.lit (.string [101, 114, 114, 111, 114]))])
/-- One of Go's own tables, pinned by name: the form's constant. -/
def laid_unicode_utf8_first : DataW Unit := Go.Pinned.utf8First

/-- 'pawllaw08.SchemaDecodes': WHATEVER THE INPUT: true; the input reads as it did. -/
def schemaDecodesSpec : ChangeSpec := { name := "schemaDecodes", fn := fun _ => fun
  | [d1, d2] => { results := [.lit (.bool true)], args := [d1, d2] }
  | _ => none }
def schemaDecodesRow : OpenClaim := { program := "ytinngljphjdpoaagreatdoor", sum := "736e187b4e5db0f949ba72468d6662fba099fb7dadaae279d79348db19217442", func := "pawl/pawllaw08.SchemaDecodes", spec := "schemaDecodes", inPlace := ["math.Float64frombits", "math.Float64bits", "internal/reflectlite.ValueOf", "(internal/reflectlite.Value).Type", "(internal/reflectlite.Value).IsNil", "internal/reflectlite.TypeOf", "(internal/reflectlite.Value).Elem", "(internal/reflectlite.Value).Set"], unfollowed := true, recurses := true, named := ["unicode/utf8.first", "unicode/utf8.acceptRanges", "errors.errorType"], loops := true, apart := false, laid := [("unicode/utf8.acceptRanges", laid_unicode_utf8_acceptRanges), ("errors.errorType", laid_errors_errorType), ("unicode/utf8.first", laid_unicode_utf8_first)] }
def SchemaDecodesSaid : Prop := schemaDecodesRow.holds Tryz.pinned (OpenSpec.ofChange schemaDecodesSpec)

/-- ITS FALSE NEIGHBOUR: 'it returns false'. Refute it at one input. -/
def schemaDecodesWrong : ChangeSpec := { name := "schemaDecodes", fn := fun _ => fun
  | [d1, d2] => { results := [.lit (.bool false)], args := [d1, d2] }
  | _ => none }
def SchemaDecodesWrongFalsely : Prop := schemaDecodesRow.holds Tryz.pinned (OpenSpec.ofChange schemaDecodesWrong)

/-- 'pawllaw14.AgreePacks': WHATEVER THE INPUT: true; the input reads as it did. -/
def agreePacksSpec : ChangeSpec := { name := "agreePacks", fn := fun _ => fun
  | [d] => { results := [.lit (.bool true)], args := [d] }
  | _ => none }
def agreePacksRow : OpenClaim := { program := "ytinngljphjdpoaagreatdoor", sum := "736e187b4e5db0f949ba72468d6662fba099fb7dadaae279d79348db19217442", func := "pawl/pawllaw14.AgreePacks", spec := "agreePacks", inPlace := ["math.Float64frombits", "math.Float64bits"], unfollowed := true, recurses := true, named := ["unicode/utf8.first", "unicode/utf8.acceptRanges"], apart := false, laid := [("unicode/utf8.acceptRanges", laid_unicode_utf8_acceptRanges), ("unicode/utf8.first", laid_unicode_utf8_first)] }
def AgreePacksSaid : Prop := agreePacksRow.holds Tryz.pinned (OpenSpec.ofChange agreePacksSpec)

/-- ITS FALSE NEIGHBOUR: 'it returns false'. Refute it at one input. -/
def agreePacksWrong : ChangeSpec := { name := "agreePacks", fn := fun _ => fun
  | [d] => { results := [.lit (.bool false)], args := [d] }
  | _ => none }
def AgreePacksWrongFalsely : Prop := agreePacksRow.holds Tryz.pinned (OpenSpec.ofChange agreePacksWrong)

/-- 'pawllaw10.EnvelopeHeaders': WHATEVER THE INPUT: true; the input reads as it did. -/
def envelopeHeadersSpec : ChangeSpec := { name := "envelopeHeaders", fn := fun _ => fun
  | [d] => { results := [.lit (.bool true)], args := [d] }
  | _ => none }
def envelopeHeadersRow : OpenClaim := { program := "ytinngljphjdpoaagreatdoor", sum := "736e187b4e5db0f949ba72468d6662fba099fb7dadaae279d79348db19217442", func := "pawl/pawllaw10.EnvelopeHeaders", spec := "envelopeHeaders", inPlace := ["math.Float64frombits", "math.Float64bits"], unfollowed := true, recurses := true, named := ["unicode/utf8.first", "unicode/utf8.acceptRanges"], apart := false, laid := [("unicode/utf8.acceptRanges", laid_unicode_utf8_acceptRanges), ("unicode/utf8.first", laid_unicode_utf8_first)] }
def EnvelopeHeadersSaid : Prop := envelopeHeadersRow.holds Tryz.pinned (OpenSpec.ofChange envelopeHeadersSpec)

/-- ITS FALSE NEIGHBOUR: 'it returns false'. Refute it at one input. -/
def envelopeHeadersWrong : ChangeSpec := { name := "envelopeHeaders", fn := fun _ => fun
  | [d] => { results := [.lit (.bool false)], args := [d] }
  | _ => none }
def EnvelopeHeadersWrongFalsely : Prop := envelopeHeadersRow.holds Tryz.pinned (OpenSpec.ofChange envelopeHeadersWrong)

/-- 'pawllaw08.SchemaExact': WHATEVER THE INPUT: true; the input reads as it did. -/
def schemaExactSpec : ChangeSpec := { name := "schemaExact", fn := fun _ => fun
  | [d1, d2, d3] => { results := [.lit (.bool true)], args := [d1, d2, d3] }
  | _ => none }
def schemaExactRow : OpenClaim := { program := "ytinngljphjdpoaagreatdoor", sum := "736e187b4e5db0f949ba72468d6662fba099fb7dadaae279d79348db19217442", func := "pawl/pawllaw08.SchemaExact", spec := "schemaExact", inPlace := ["math.Float64frombits", "math.Float64bits", "internal/reflectlite.ValueOf", "(internal/reflectlite.Value).Type", "(internal/reflectlite.Value).IsNil", "internal/reflectlite.TypeOf", "(internal/reflectlite.Value).Elem", "(internal/reflectlite.Value).Set"], unfollowed := true, recurses := true, named := ["unicode/utf8.first", "unicode/utf8.acceptRanges", "errors.errorType"], loops := true, apart := false, laid := [("unicode/utf8.acceptRanges", laid_unicode_utf8_acceptRanges), ("errors.errorType", laid_errors_errorType), ("unicode/utf8.first", laid_unicode_utf8_first)] }
def SchemaExactSaid : Prop := schemaExactRow.holds Tryz.pinned (OpenSpec.ofChange schemaExactSpec)

/-- ITS FALSE NEIGHBOUR: 'it returns false'. Refute it at one input. -/
def schemaExactWrong : ChangeSpec := { name := "schemaExact", fn := fun _ => fun
  | [d1, d2, d3] => { results := [.lit (.bool false)], args := [d1, d2, d3] }
  | _ => none }
def SchemaExactWrongFalsely : Prop := schemaExactRow.holds Tryz.pinned (OpenSpec.ofChange schemaExactWrong)

/-- 'pawllaw08.SchemaPlaces': WHATEVER THE INPUT: true; the input reads as it did. -/
def schemaPlacesSpec : ChangeSpec := { name := "schemaPlaces", fn := fun _ => fun
  | [d1, d2, d3] => { results := [.lit (.bool true)], args := [d1, d2, d3] }
  | _ => none }
def schemaPlacesRow : OpenClaim := { program := "ytinngljphjdpoaagreatdoor", sum := "736e187b4e5db0f949ba72468d6662fba099fb7dadaae279d79348db19217442", func := "pawl/pawllaw08.SchemaPlaces", spec := "schemaPlaces", inPlace := ["math.Float64frombits", "math.Float64bits", "internal/reflectlite.ValueOf", "(internal/reflectlite.Value).Type", "(internal/reflectlite.Value).IsNil", "internal/reflectlite.TypeOf", "(internal/reflectlite.Value).Elem", "(internal/reflectlite.Value).Set"], unfollowed := true, recurses := true, named := ["unicode/utf8.first", "unicode/utf8.acceptRanges", "errors.errorType"], loops := true, apart := false, laid := [("unicode/utf8.acceptRanges", laid_unicode_utf8_acceptRanges), ("errors.errorType", laid_errors_errorType), ("unicode/utf8.first", laid_unicode_utf8_first)] }
def SchemaPlacesSaid : Prop := schemaPlacesRow.holds Tryz.pinned (OpenSpec.ofChange schemaPlacesSpec)

/-- ITS FALSE NEIGHBOUR: 'it returns false'. Refute it at one input. -/
def schemaPlacesWrong : ChangeSpec := { name := "schemaPlaces", fn := fun _ => fun
  | [d1, d2, d3] => { results := [.lit (.bool false)], args := [d1, d2, d3] }
  | _ => none }
def SchemaPlacesWrongFalsely : Prop := schemaPlacesRow.holds Tryz.pinned (OpenSpec.ofChange schemaPlacesWrong)

/-- 'pawllaw14.AgreeParses': WHATEVER THE INPUT: true; the input reads as it did. -/
def agreeParsesSpec : ChangeSpec := { name := "agreeParses", fn := fun _ => fun
  | [d] => { results := [.lit (.bool true)], args := [d] }
  | _ => none }
def agreeParsesRow : OpenClaim := { program := "ytinngljphjdpoaagreatdoor", sum := "736e187b4e5db0f949ba72468d6662fba099fb7dadaae279d79348db19217442", func := "pawl/pawllaw14.AgreeParses", spec := "agreeParses", inPlace := ["math.Float64frombits", "math.Float64bits", "internal/reflectlite.ValueOf", "(internal/reflectlite.Value).Type", "(internal/reflectlite.Value).IsNil", "internal/reflectlite.TypeOf", "(internal/reflectlite.Value).Elem", "(internal/reflectlite.Value).Set"], unfollowed := true, recurses := true, named := ["unicode/utf8.first", "unicode/utf8.acceptRanges", "errors.errorType"], apart := false, laid := [("unicode/utf8.acceptRanges", laid_unicode_utf8_acceptRanges), ("errors.errorType", laid_errors_errorType), ("unicode/utf8.first", laid_unicode_utf8_first)] }
def AgreeParsesSaid : Prop := agreeParsesRow.holds Tryz.pinned (OpenSpec.ofChange agreeParsesSpec)

/-- ITS FALSE NEIGHBOUR: 'it returns false'. Refute it at one input. -/
def agreeParsesWrong : ChangeSpec := { name := "agreeParses", fn := fun _ => fun
  | [d] => { results := [.lit (.bool false)], args := [d] }
  | _ => none }
def AgreeParsesWrongFalsely : Prop := agreeParsesRow.holds Tryz.pinned (OpenSpec.ofChange agreeParsesWrong)

/-- 'pawllaw10.EnvelopeReads': WHATEVER THE INPUT: true; the input reads as it did. -/
def envelopeReadsSpec : ChangeSpec := { name := "envelopeReads", fn := fun _ => fun
  | [d] => { results := [.lit (.bool true)], args := [d] }
  | _ => none }
def envelopeReadsRow : OpenClaim := { program := "ytinngljphjdpoaagreatdoor", sum := "736e187b4e5db0f949ba72468d6662fba099fb7dadaae279d79348db19217442", func := "pawl/pawllaw10.EnvelopeReads", spec := "envelopeReads", inPlace := ["math.Float64frombits", "math.Float64bits", "internal/reflectlite.ValueOf", "(internal/reflectlite.Value).Type", "(internal/reflectlite.Value).IsNil", "internal/reflectlite.TypeOf", "(internal/reflectlite.Value).Elem", "(internal/reflectlite.Value).Set"], unfollowed := true, recurses := true, named := ["unicode/utf8.first", "unicode/utf8.acceptRanges", "errors.errorType"], apart := false, laid := [("unicode/utf8.acceptRanges", laid_unicode_utf8_acceptRanges), ("errors.errorType", laid_errors_errorType), ("unicode/utf8.first", laid_unicode_utf8_first)] }
def EnvelopeReadsSaid : Prop := envelopeReadsRow.holds Tryz.pinned (OpenSpec.ofChange envelopeReadsSpec)

/-- ITS FALSE NEIGHBOUR: 'it returns false'. Refute it at one input. -/
def envelopeReadsWrong : ChangeSpec := { name := "envelopeReads", fn := fun _ => fun
  | [d] => { results := [.lit (.bool false)], args := [d] }
  | _ => none }
def EnvelopeReadsWrongFalsely : Prop := envelopeReadsRow.holds Tryz.pinned (OpenSpec.ofChange envelopeReadsWrong)

/- THE SECOND FORM. 'bulk': how many values and letters a reading holds, each counted each time it is reached (what is shared counts as often as it is met; a slice's spare places count too). A statement '..UptoSaid' is the law's where the arguments, and the package variables that the reading takes, are together of bulk at most 1048576: NARROWER than '..Said'. Prove '..Said' where nothing that the law and all that it calls make is longer than what came in: it says more and counts as full. Else prove '..UptoSaid'. A law counts once. -/
mutual
def uptoBulk {H : Type} : DataW H → Nat
  | .lit (.string bytes) => bytes.length + 1
  | .lit _ => 1
  | .nil => 1
  | .ptr d => uptoBulk d + 1
  | .slice elems spare => uptoBulkAll elems + uptoBulkAll spare + 1
  | .agg parts => uptoBulkAll parts + 1
  | .iface _ d => uptoBulk d + 1
  | .map entries => uptoBulkEntries entries + 1
  | .held _ => 1
def uptoBulkAll {H : Type} : List (DataW H) → Nat
  | [] => 0
  | d :: r => uptoBulk d + uptoBulkAll r
def uptoBulkEntries {H : Type} : List (Lit × DataW H) → Nat
  | [] => 0
  | x :: r => uptoBulkEntry x + uptoBulkEntries r
def uptoBulkEntry {H : Type} : Lit × DataW H → Nat
  | (.string bytes, d) => bytes.length + uptoBulk d + 1
  | (_, d) => uptoBulk d + 1
 end
def uptoSmall : (H : Type) → List (DataW H) → Bool := fun _ ds => decide (uptoBulkAll ds ≤ 1048576)
def OpenSpec.upto (s : _root_.Go.ChangeSpec) : _root_.Go.OpenSpec := { _root_.Go.OpenSpec.ofChange s with cond := some uptoSmall }

/-- 'pawllaw08.SchemaDecodes', WHERE WHAT IT READS IS OF BULK AT MOST 1048576: true; the input reads as it did. -/
def schemaDecodesUptoRow : OpenClaim := { program := "ytinngljphjdpoaagreatdoor", sum := "736e187b4e5db0f949ba72468d6662fba099fb7dadaae279d79348db19217442", func := "pawl/pawllaw08.SchemaDecodes", spec := "schemaDecodes", inPlace := ["math.Float64frombits", "math.Float64bits", "internal/reflectlite.ValueOf", "(internal/reflectlite.Value).Type", "(internal/reflectlite.Value).IsNil", "internal/reflectlite.TypeOf", "(internal/reflectlite.Value).Elem", "(internal/reflectlite.Value).Set"], unfollowed := true, recurses := true, named := ["unicode/utf8.first", "unicode/utf8.acceptRanges", "errors.errorType"], loops := true, apart := false, laid := [("unicode/utf8.acceptRanges", laid_unicode_utf8_acceptRanges), ("errors.errorType", laid_errors_errorType), ("unicode/utf8.first", laid_unicode_utf8_first)], narrowed := true }
def SchemaDecodesUptoSaid : Prop := schemaDecodesUptoRow.holds Tryz.pinned (OpenSpec.upto schemaDecodesSpec)

/-- 'pawllaw14.AgreePacks', WHERE WHAT IT READS IS OF BULK AT MOST 1048576: true; the input reads as it did. -/
def agreePacksUptoRow : OpenClaim := { program := "ytinngljphjdpoaagreatdoor", sum := "736e187b4e5db0f949ba72468d6662fba099fb7dadaae279d79348db19217442", func := "pawl/pawllaw14.AgreePacks", spec := "agreePacks", inPlace := ["math.Float64frombits", "math.Float64bits"], unfollowed := true, recurses := true, named := ["unicode/utf8.first", "unicode/utf8.acceptRanges"], apart := false, laid := [("unicode/utf8.acceptRanges", laid_unicode_utf8_acceptRanges), ("unicode/utf8.first", laid_unicode_utf8_first)], narrowed := true }
def AgreePacksUptoSaid : Prop := agreePacksUptoRow.holds Tryz.pinned (OpenSpec.upto agreePacksSpec)

/-- 'pawllaw10.EnvelopeHeaders', WHERE WHAT IT READS IS OF BULK AT MOST 1048576: true; the input reads as it did. -/
def envelopeHeadersUptoRow : OpenClaim := { program := "ytinngljphjdpoaagreatdoor", sum := "736e187b4e5db0f949ba72468d6662fba099fb7dadaae279d79348db19217442", func := "pawl/pawllaw10.EnvelopeHeaders", spec := "envelopeHeaders", inPlace := ["math.Float64frombits", "math.Float64bits"], unfollowed := true, recurses := true, named := ["unicode/utf8.first", "unicode/utf8.acceptRanges"], apart := false, laid := [("unicode/utf8.acceptRanges", laid_unicode_utf8_acceptRanges), ("unicode/utf8.first", laid_unicode_utf8_first)], narrowed := true }
def EnvelopeHeadersUptoSaid : Prop := envelopeHeadersUptoRow.holds Tryz.pinned (OpenSpec.upto envelopeHeadersSpec)

/-- 'pawllaw08.SchemaExact', WHERE WHAT IT READS IS OF BULK AT MOST 1048576: true; the input reads as it did. -/
def schemaExactUptoRow : OpenClaim := { program := "ytinngljphjdpoaagreatdoor", sum := "736e187b4e5db0f949ba72468d6662fba099fb7dadaae279d79348db19217442", func := "pawl/pawllaw08.SchemaExact", spec := "schemaExact", inPlace := ["math.Float64frombits", "math.Float64bits", "internal/reflectlite.ValueOf", "(internal/reflectlite.Value).Type", "(internal/reflectlite.Value).IsNil", "internal/reflectlite.TypeOf", "(internal/reflectlite.Value).Elem", "(internal/reflectlite.Value).Set"], unfollowed := true, recurses := true, named := ["unicode/utf8.first", "unicode/utf8.acceptRanges", "errors.errorType"], loops := true, apart := false, laid := [("unicode/utf8.acceptRanges", laid_unicode_utf8_acceptRanges), ("errors.errorType", laid_errors_errorType), ("unicode/utf8.first", laid_unicode_utf8_first)], narrowed := true }
def SchemaExactUptoSaid : Prop := schemaExactUptoRow.holds Tryz.pinned (OpenSpec.upto schemaExactSpec)

/-- 'pawllaw08.SchemaPlaces', WHERE WHAT IT READS IS OF BULK AT MOST 1048576: true; the input reads as it did. -/
def schemaPlacesUptoRow : OpenClaim := { program := "ytinngljphjdpoaagreatdoor", sum := "736e187b4e5db0f949ba72468d6662fba099fb7dadaae279d79348db19217442", func := "pawl/pawllaw08.SchemaPlaces", spec := "schemaPlaces", inPlace := ["math.Float64frombits", "math.Float64bits", "internal/reflectlite.ValueOf", "(internal/reflectlite.Value).Type", "(internal/reflectlite.Value).IsNil", "internal/reflectlite.TypeOf", "(internal/reflectlite.Value).Elem", "(internal/reflectlite.Value).Set"], unfollowed := true, recurses := true, named := ["unicode/utf8.first", "unicode/utf8.acceptRanges", "errors.errorType"], loops := true, apart := false, laid := [("unicode/utf8.acceptRanges", laid_unicode_utf8_acceptRanges), ("errors.errorType", laid_errors_errorType), ("unicode/utf8.first", laid_unicode_utf8_first)], narrowed := true }
def SchemaPlacesUptoSaid : Prop := schemaPlacesUptoRow.holds Tryz.pinned (OpenSpec.upto schemaPlacesSpec)

/-- 'pawllaw14.AgreeParses', WHERE WHAT IT READS IS OF BULK AT MOST 1048576: true; the input reads as it did. -/
def agreeParsesUptoRow : OpenClaim := { program := "ytinngljphjdpoaagreatdoor", sum := "736e187b4e5db0f949ba72468d6662fba099fb7dadaae279d79348db19217442", func := "pawl/pawllaw14.AgreeParses", spec := "agreeParses", inPlace := ["math.Float64frombits", "math.Float64bits", "internal/reflectlite.ValueOf", "(internal/reflectlite.Value).Type", "(internal/reflectlite.Value).IsNil", "internal/reflectlite.TypeOf", "(internal/reflectlite.Value).Elem", "(internal/reflectlite.Value).Set"], unfollowed := true, recurses := true, named := ["unicode/utf8.first", "unicode/utf8.acceptRanges", "errors.errorType"], apart := false, laid := [("unicode/utf8.acceptRanges", laid_unicode_utf8_acceptRanges), ("errors.errorType", laid_errors_errorType), ("unicode/utf8.first", laid_unicode_utf8_first)], narrowed := true }
def AgreeParsesUptoSaid : Prop := agreeParsesUptoRow.holds Tryz.pinned (OpenSpec.upto agreeParsesSpec)

/-- 'pawllaw10.EnvelopeReads', WHERE WHAT IT READS IS OF BULK AT MOST 1048576: true; the input reads as it did. -/
def envelopeReadsUptoRow : OpenClaim := { program := "ytinngljphjdpoaagreatdoor", sum := "736e187b4e5db0f949ba72468d6662fba099fb7dadaae279d79348db19217442", func := "pawl/pawllaw10.EnvelopeReads", spec := "envelopeReads", inPlace := ["math.Float64frombits", "math.Float64bits", "internal/reflectlite.ValueOf", "(internal/reflectlite.Value).Type", "(internal/reflectlite.Value).IsNil", "internal/reflectlite.TypeOf", "(internal/reflectlite.Value).Elem", "(internal/reflectlite.Value).Set"], unfollowed := true, recurses := true, named := ["unicode/utf8.first", "unicode/utf8.acceptRanges", "errors.errorType"], apart := false, laid := [("unicode/utf8.acceptRanges", laid_unicode_utf8_acceptRanges), ("errors.errorType", laid_errors_errorType), ("unicode/utf8.first", laid_unicode_utf8_first)], narrowed := true }
def EnvelopeReadsUptoSaid : Prop := envelopeReadsUptoRow.holds Tryz.pinned (OpenSpec.upto envelopeReadsSpec)

end Rows
end Go.Proofs.YtinngljphjdpoaaGreatDoor
