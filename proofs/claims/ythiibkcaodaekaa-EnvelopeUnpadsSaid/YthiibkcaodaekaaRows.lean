/-
  No cell of these rows narrows 'for every input' (looked for: loops, veiled, ifaces, maps, wideKeys, modest, calm, conditions, laid).
  DERIVED. THE GIVEN ROWS OF THIS SEAT. 3 by the template 'for every input the law returns true; each argument reads behind the call as it read before'; 0 by the template 'total and deterministic' (their statements: YthiibkcaodaekaaTotals.lean).
  GIVEN WITH THE SEED: the statements are not yours to turn. If you find one false, say at which input.
  Laid BY PROGRAM, IN A SANDBOX (cutbox-rows.mjs): the forced cells as the released guide's own fill.sh prints them over the translation 4ef4f1d718d58403… (all of the seat's roots in one cut). By AI agents, Wed Nov 11 2026. No macro, syntax, notation, axiom, sorry.
-/
import Derived.Test.YthiibkcaodaekaaChecked
import GoSem.Claim
import GoSem.ClaimJoined
import GoSem.ClaimMapViews
import Derived.JoinedTies
import Derived.KernelRfl
namespace Go.Proofs.Ythiibkcaodaekaa
/- THE CELL 'sum', in the pinned program and in every row, IS THE sha256 OF THE DUMP (.gsa) THAT YthiibkcaodaekaaProg.lean LOADS. Nothing in Lean hashes anything: it is a label: what it is worth is what the hold of that sum in a sandbox is worth. -/
noncomputable def Try.pinned : Pinned := { name := "ythiibkcaodaekaa", sum := "4ef4f1d718d5840355660d196470f803b9ee51364ac3dc602219ec0f8171dce1", checked := Try.checked }
namespace Rows
def none {H : Type} : Left H := { results := [], args := [] }

/-- 'pawllaw10.EnvelopePads': WHATEVER THE INPUT: true; the input reads as it did. -/
def envelopePadsSpec : ChangeSpec := { name := "envelopePads", fn := fun _ => fun
  | [d1, d2] => { results := [.lit (.bool true)], args := [d1, d2] }
  | _ => none }
def envelopePadsRow : OpenClaim := { program := "ythiibkcaodaekaa", sum := "4ef4f1d718d5840355660d196470f803b9ee51364ac3dc602219ec0f8171dce1", func := "pawl/pawllaw10.EnvelopePads", spec := "envelopePads", unfollowed := true, recurses := true, apart := false }
def EnvelopePadsSaid : Prop := envelopePadsRow.holds Try.pinned (OpenSpec.ofChange envelopePadsSpec)

/-- ITS FALSE NEIGHBOUR: 'it returns false'. Refute it at one input. -/
def envelopePadsWrong : ChangeSpec := { name := "envelopePads", fn := fun _ => fun
  | [d1, d2] => { results := [.lit (.bool false)], args := [d1, d2] }
  | _ => none }
def EnvelopePadsWrongFalsely : Prop := envelopePadsRow.holds Try.pinned (OpenSpec.ofChange envelopePadsWrong)

/-- 'pawllaw10.EnvelopeBuckets': WHATEVER THE INPUT: true; the input reads as it did. -/
def envelopeBucketsSpec : ChangeSpec := { name := "envelopeBuckets", fn := fun _ => fun
  | [d1, d2] => { results := [.lit (.bool true)], args := [d1, d2] }
  | _ => none }
def envelopeBucketsRow : OpenClaim := { program := "ythiibkcaodaekaa", sum := "4ef4f1d718d5840355660d196470f803b9ee51364ac3dc602219ec0f8171dce1", func := "pawl/pawllaw10.EnvelopeBuckets", spec := "envelopeBuckets", unfollowed := true, recurses := true, apart := false }
def EnvelopeBucketsSaid : Prop := envelopeBucketsRow.holds Try.pinned (OpenSpec.ofChange envelopeBucketsSpec)

/-- ITS FALSE NEIGHBOUR: 'it returns false'. Refute it at one input. -/
def envelopeBucketsWrong : ChangeSpec := { name := "envelopeBuckets", fn := fun _ => fun
  | [d1, d2] => { results := [.lit (.bool false)], args := [d1, d2] }
  | _ => none }
def EnvelopeBucketsWrongFalsely : Prop := envelopeBucketsRow.holds Try.pinned (OpenSpec.ofChange envelopeBucketsWrong)

/-- 'pawllaw10.EnvelopeUnpads': WHATEVER THE INPUT: true; the input reads as it did. -/
def envelopeUnpadsSpec : ChangeSpec := { name := "envelopeUnpads", fn := fun _ => fun
  | [d1, d2] => { results := [.lit (.bool true)], args := [d1, d2] }
  | _ => none }
def envelopeUnpadsRow : OpenClaim := { program := "ythiibkcaodaekaa", sum := "4ef4f1d718d5840355660d196470f803b9ee51364ac3dc602219ec0f8171dce1", func := "pawl/pawllaw10.EnvelopeUnpads", spec := "envelopeUnpads", unfollowed := true, recurses := true, apart := false }
def EnvelopeUnpadsSaid : Prop := envelopeUnpadsRow.holds Try.pinned (OpenSpec.ofChange envelopeUnpadsSpec)

/-- ITS FALSE NEIGHBOUR: 'it returns false'. Refute it at one input. -/
def envelopeUnpadsWrong : ChangeSpec := { name := "envelopeUnpads", fn := fun _ => fun
  | [d1, d2] => { results := [.lit (.bool false)], args := [d1, d2] }
  | _ => none }
def EnvelopeUnpadsWrongFalsely : Prop := envelopeUnpadsRow.holds Try.pinned (OpenSpec.ofChange envelopeUnpadsWrong)

/- THE SECOND FORM. 'bulk': how many values and letters a reading holds, each counted each time it is reached (what is shared counts as often as it is met; a slice's spare places count too). A statement '..UptoSaid' is the law's where the arguments, and the package variables that the reading takes, are together of bulk at most 1048576: NARROWER than '..Said'. Prove '..Said' where nothing that the law and all that it calls make is longer than what came in: it says more and counts as full. Else prove '..UptoSaid'. A law counts once. -/
mutual
def uptoBulk {H : Type} : DataW H → Nat
  | .lit (.string bytes) => bytes.length + 1
  | .lit _ => 1
  | .nil => 1
  | .ptr d => uptoBulk d + 1
  | .slice elems spare => uptoBulkAll elems + uptoBulkAll spare + 1
  | .agg parts => uptoBulkAll parts + 1
  | .iface _ d => uptoBulk d + 1
  | .map entries => uptoBulkEntries entries + 1
  | .held _ => 1
def uptoBulkAll {H : Type} : List (DataW H) → Nat
  | [] => 0
  | d :: r => uptoBulk d + uptoBulkAll r
def uptoBulkEntries {H : Type} : List (Lit × DataW H) → Nat
  | [] => 0
  | x :: r => uptoBulkEntry x + uptoBulkEntries r
def uptoBulkEntry {H : Type} : Lit × DataW H → Nat
  | (.string bytes, d) => bytes.length + uptoBulk d + 1
  | (_, d) => uptoBulk d + 1
 end
def uptoSmall : (H : Type) → List (DataW H) → Bool := fun _ ds => decide (uptoBulkAll ds ≤ 1048576)
def OpenSpec.upto (s : _root_.Go.ChangeSpec) : _root_.Go.OpenSpec := { _root_.Go.OpenSpec.ofChange s with cond := some uptoSmall }

/-- 'pawllaw10.EnvelopePads', WHERE WHAT IT READS IS OF BULK AT MOST 1048576: true; the input reads as it did. -/
def envelopePadsUptoRow : OpenClaim := { program := "ythiibkcaodaekaa", sum := "4ef4f1d718d5840355660d196470f803b9ee51364ac3dc602219ec0f8171dce1", func := "pawl/pawllaw10.EnvelopePads", spec := "envelopePads", unfollowed := true, recurses := true, apart := false, narrowed := true }
def EnvelopePadsUptoSaid : Prop := envelopePadsUptoRow.holds Try.pinned (OpenSpec.upto envelopePadsSpec)

/-- 'pawllaw10.EnvelopeBuckets', WHERE WHAT IT READS IS OF BULK AT MOST 1048576: true; the input reads as it did. -/
def envelopeBucketsUptoRow : OpenClaim := { program := "ythiibkcaodaekaa", sum := "4ef4f1d718d5840355660d196470f803b9ee51364ac3dc602219ec0f8171dce1", func := "pawl/pawllaw10.EnvelopeBuckets", spec := "envelopeBuckets", unfollowed := true, recurses := true, apart := false, narrowed := true }
def EnvelopeBucketsUptoSaid : Prop := envelopeBucketsUptoRow.holds Try.pinned (OpenSpec.upto envelopeBucketsSpec)

/-- 'pawllaw10.EnvelopeUnpads', WHERE WHAT IT READS IS OF BULK AT MOST 1048576: true; the input reads as it did. -/
def envelopeUnpadsUptoRow : OpenClaim := { program := "ythiibkcaodaekaa", sum := "4ef4f1d718d5840355660d196470f803b9ee51364ac3dc602219ec0f8171dce1", func := "pawl/pawllaw10.EnvelopeUnpads", spec := "envelopeUnpads", unfollowed := true, recurses := true, apart := false, narrowed := true }
def EnvelopeUnpadsUptoSaid : Prop := envelopeUnpadsUptoRow.holds Try.pinned (OpenSpec.upto envelopeUnpadsSpec)

end Rows
end Go.Proofs.Ythiibkcaodaekaa
