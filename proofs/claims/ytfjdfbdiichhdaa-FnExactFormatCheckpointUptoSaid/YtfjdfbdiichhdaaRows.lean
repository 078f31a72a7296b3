/-
  No cell of these rows narrows 'for every input' (looked for: loops, veiled, ifaces, maps, wideKeys, modest, calm, conditions, laid).
  DERIVED. THE GIVEN ROWS OF THIS SEAT. 4 by the template 'for every input the law returns true; each argument reads behind the call as it read before'; 0 by the template 'total and deterministic' (their statements: YtfjdfbdiichhdaaTotals.lean).
  GIVEN WITH THE SEED: the statements are not yours to turn. If you find one false, say at which input.
  Laid BY PROGRAM, IN A SANDBOX (cutbox-rows.mjs): the forced cells as the released guide's own fill.sh prints them over the translation 5b4cc2dd30acacb2… (all of the seat's roots in one cut). By AI agents, Wed Nov 11 2026. No macro, syntax, notation, axiom, sorry.
-/
import Derived.Test.YtfjdfbdiichhdaaChecked
import GoSem.Claim
import GoSem.ClaimJoined
import GoSem.ClaimMapViews
import Derived.JoinedTies
import Derived.KernelRfl
namespace Go.Proofs.Ytfjdfbdiichhdaa
/- THE CELL 'sum', in the pinned program and in every row, IS THE sha256 OF THE DUMP (.gsa) THAT YtfjdfbdiichhdaaProg.lean LOADS. Nothing in Lean hashes anything: it is a label: what it is worth is what the hold of that sum in a sandbox is worth. -/
noncomputable def Try.pinned : Pinned := { name := "ytfjdfbdiichhdaa", sum := "5b4cc2dd30acacb2b657ef1d1706eb35546acca515feb11820a55f8202a6547f", checked := Try.checked }
namespace Rows
def none {H : Type} : Left H := { results := [], args := [] }

/-- 'laws.FnExactIsValidCheckpoint': WHATEVER THE INPUT: true; the input reads as it did. -/
def fnExactIsValidCheckpointSpec : ChangeSpec := { name := "fnExactIsValidCheckpoint", fn := fun _ => fun
  | [d] => { results := [.lit (.bool true)], args := [d] }
  | _ => none }
def fnExactIsValidCheckpointRow : OpenClaim := { program := "ytfjdfbdiichhdaa", sum := "5b4cc2dd30acacb2b657ef1d1706eb35546acca515feb11820a55f8202a6547f", func := "loop.example/g01920/laws.FnExactIsValidCheckpoint", spec := "fnExactIsValidCheckpoint", unfollowed := true, recurses := true, apart := false }
def FnExactIsValidCheckpointSaid : Prop := fnExactIsValidCheckpointRow.holds Try.pinned (OpenSpec.ofChange fnExactIsValidCheckpointSpec)

/-- ITS FALSE NEIGHBOUR: 'it returns false'. Refute it at one input. -/
def fnExactIsValidCheckpointWrong : ChangeSpec := { name := "fnExactIsValidCheckpoint", fn := fun _ => fun
  | [d] => { results := [.lit (.bool false)], args := [d] }
  | _ => none }
def FnExactIsValidCheckpointWrongFalsely : Prop := fnExactIsValidCheckpointRow.holds Try.pinned (OpenSpec.ofChange fnExactIsValidCheckpointWrong)

/-- 'laws.FnExactNewSystem': WHATEVER THE INPUT: true; the input reads as it did. -/
def fnExactNewSystemSpec : ChangeSpec := { name := "fnExactNewSystem", fn := fun _ => fun
  | [d] => { results := [.lit (.bool true)], args := [d] }
  | _ => none }
def fnExactNewSystemRow : OpenClaim := { program := "ytfjdfbdiichhdaa", sum := "5b4cc2dd30acacb2b657ef1d1706eb35546acca515feb11820a55f8202a6547f", func := "loop.example/g01920/laws.FnExactNewSystem", spec := "fnExactNewSystem", apart := false }
def FnExactNewSystemSaid : Prop := fnExactNewSystemRow.holds Try.pinned (OpenSpec.ofChange fnExactNewSystemSpec)

/-- ITS FALSE NEIGHBOUR: 'it returns false'. Refute it at one input. -/
def fnExactNewSystemWrong : ChangeSpec := { name := "fnExactNewSystem", fn := fun _ => fun
  | [d] => { results := [.lit (.bool false)], args := [d] }
  | _ => none }
def FnExactNewSystemWrongFalsely : Prop := fnExactNewSystemRow.holds Try.pinned (OpenSpec.ofChange fnExactNewSystemWrong)

/-- 'laws.FnExactFormatCheckpoint': WHATEVER THE INPUT: true; the input reads as it did. -/
def fnExactFormatCheckpointSpec : ChangeSpec := { name := "fnExactFormatCheckpoint", fn := fun _ => fun
  | [d] => { results := [.lit (.bool true)], args := [d] }
  | _ => none }
def fnExactFormatCheckpointRow : OpenClaim := { program := "ytfjdfbdiichhdaa", sum := "5b4cc2dd30acacb2b657ef1d1706eb35546acca515feb11820a55f8202a6547f", func := "loop.example/g01920/laws.FnExactFormatCheckpoint", spec := "fnExactFormatCheckpoint", unfollowed := true, recurses := true, apart := false }
def FnExactFormatCheckpointSaid : Prop := fnExactFormatCheckpointRow.holds Try.pinned (OpenSpec.ofChange fnExactFormatCheckpointSpec)

/-- ITS FALSE NEIGHBOUR: 'it returns false'. Refute it at one input. -/
def fnExactFormatCheckpointWrong : ChangeSpec := { name := "fnExactFormatCheckpoint", fn := fun _ => fun
  | [d] => { results := [.lit (.bool false)], args := [d] }
  | _ => none }
def FnExactFormatCheckpointWrongFalsely : Prop := fnExactFormatCheckpointRow.holds Try.pinned (OpenSpec.ofChange fnExactFormatCheckpointWrong)

/-- 'laws.FnExactParseCheckpoint': WHATEVER THE INPUT: true; the input reads as it did. -/
def fnExactParseCheckpointSpec : ChangeSpec := { name := "fnExactParseCheckpoint", fn := fun _ => fun
  | [d] => { results := [.lit (.bool true)], args := [d] }
  | _ => none }
def fnExactParseCheckpointRow : OpenClaim := { program := "ytfjdfbdiichhdaa", sum := "5b4cc2dd30acacb2b657ef1d1706eb35546acca515feb11820a55f8202a6547f", func := "loop.example/g01920/laws.FnExactParseCheckpoint", spec := "fnExactParseCheckpoint", unfollowed := true, recurses := true, apart := false }
def FnExactParseCheckpointSaid : Prop := fnExactParseCheckpointRow.holds Try.pinned (OpenSpec.ofChange fnExactParseCheckpointSpec)

/-- ITS FALSE NEIGHBOUR: 'it returns false'. Refute it at one input. -/
def fnExactParseCheckpointWrong : ChangeSpec := { name := "fnExactParseCheckpoint", fn := fun _ => fun
  | [d] => { results := [.lit (.bool false)], args := [d] }
  | _ => none }
def FnExactParseCheckpointWrongFalsely : Prop := fnExactParseCheckpointRow.holds Try.pinned (OpenSpec.ofChange fnExactParseCheckpointWrong)

/- THE SECOND FORM. 'bulk': how many values and letters a reading holds, each counted each time it is reached (what is shared counts as often as it is met; a slice's spare places count too). A statement '..UptoSaid' is the law's where the arguments, and the package variables that the reading takes, are together of bulk at most 1048576: NARROWER than '..Said'. Prove '..Said' where nothing that the law and all that it calls make is longer than what came in: it says more and counts as full. Else prove '..UptoSaid'. A law counts once. -/
mutual
def uptoBulk {H : Type} : DataW H → Nat
  | .lit (.string bytes) => bytes.length + 1
  | .lit _ => 1
  | .nil => 1
  | .ptr d => uptoBulk d + 1
  | .slice elems spare => uptoBulkAll elems + uptoBulkAll spare + 1
  | .agg parts => uptoBulkAll parts + 1
  | .iface _ d => uptoBulk d + 1
  | .map entries => uptoBulkEntries entries + 1
  | .held _ => 1
def uptoBulkAll {H : Type} : List (DataW H) → Nat
  | [] => 0
  | d :: r => uptoBulk d + uptoBulkAll r
def uptoBulkEntries {H : Type} : List (Lit × DataW H) → Nat
  | [] => 0
  | x :: r => uptoBulkEntry x + uptoBulkEntries r
def uptoBulkEntry {H : Type} : Lit × DataW H → Nat
  | (.string bytes, d) => bytes.length + uptoBulk d + 1
  | (_, d) => uptoBulk d + 1
 end
def uptoSmall : (H : Type) → List (DataW H) → Bool := fun _ ds => decide (uptoBulkAll ds ≤ 1048576)
def OpenSpec.upto (s : _root_.Go.ChangeSpec) : _root_.Go.OpenSpec := { _root_.Go.OpenSpec.ofChange s with cond := some uptoSmall }

/-- 'laws.FnExactIsValidCheckpoint', WHERE WHAT IT READS IS OF BULK AT MOST 1048576: true; the input reads as it did. -/
def fnExactIsValidCheckpointUptoRow : OpenClaim := { program := "ytfjdfbdiichhdaa", sum := "5b4cc2dd30acacb2b657ef1d1706eb35546acca515feb11820a55f8202a6547f", func := "loop.example/g01920/laws.FnExactIsValidCheckpoint", spec := "fnExactIsValidCheckpoint", unfollowed := true, recurses := true, apart := false, narrowed := true }
def FnExactIsValidCheckpointUptoSaid : Prop := fnExactIsValidCheckpointUptoRow.holds Try.pinned (OpenSpec.upto fnExactIsValidCheckpointSpec)

/-- 'laws.FnExactNewSystem', WHERE WHAT IT READS IS OF BULK AT MOST 1048576: true; the input reads as it did. -/
def fnExactNewSystemUptoRow : OpenClaim := { program := "ytfjdfbdiichhdaa", sum := "5b4cc2dd30acacb2b657ef1d1706eb35546acca515feb11820a55f8202a6547f", func := "loop.example/g01920/laws.FnExactNewSystem", spec := "fnExactNewSystem", apart := false, narrowed := true }
def FnExactNewSystemUptoSaid : Prop := fnExactNewSystemUptoRow.holds Try.pinned (OpenSpec.upto fnExactNewSystemSpec)

/-- 'laws.FnExactFormatCheckpoint', WHERE WHAT IT READS IS OF BULK AT MOST 1048576: true; the input reads as it did. -/
def fnExactFormatCheckpointUptoRow : OpenClaim := { program := "ytfjdfbdiichhdaa", sum := "5b4cc2dd30acacb2b657ef1d1706eb35546acca515feb11820a55f8202a6547f", func := "loop.example/g01920/laws.FnExactFormatCheckpoint", spec := "fnExactFormatCheckpoint", unfollowed := true, recurses := true, apart := false, narrowed := true }
def FnExactFormatCheckpointUptoSaid : Prop := fnExactFormatCheckpointUptoRow.holds Try.pinned (OpenSpec.upto fnExactFormatCheckpointSpec)

/-- 'laws.FnExactParseCheckpoint', WHERE WHAT IT READS IS OF BULK AT MOST 1048576: true; the input reads as it did. -/
def fnExactParseCheckpointUptoRow : OpenClaim := { program := "ytfjdfbdiichhdaa", sum := "5b4cc2dd30acacb2b657ef1d1706eb35546acca515feb11820a55f8202a6547f", func := "loop.example/g01920/laws.FnExactParseCheckpoint", spec := "fnExactParseCheckpoint", unfollowed := true, recurses := true, apart := false, narrowed := true }
def FnExactParseCheckpointUptoSaid : Prop := fnExactParseCheckpointUptoRow.holds Try.pinned (OpenSpec.upto fnExactParseCheckpointSpec)

end Rows
end Go.Proofs.Ytfjdfbdiichhdaa
