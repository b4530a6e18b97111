/-
  No cell of these rows narrows 'for every input' (looked for: loops, veiled, ifaces, maps, wideKeys, modest, calm, conditions, laid).
  DERIVED. THE GIVEN ROWS OF THIS SEAT. 3 by the template 'for every input the law returns true; each argument reads behind the call as it read before'; 0 by the template 'total and deterministic' (their statements: YtllmlcmhmkkgcaaTotals.lean).
  GIVEN WITH THE SEED: the statements are not yours to turn. If you find one false, say at which input.
  Laid BY PROGRAM, IN A SANDBOX (cutbox-rows.mjs): the forced cells as the released guide's own fill.sh prints them over the translation 574afb1eea54aaf2… (all of the seat's roots in one cut). By AI agents, Wed Nov 11 2026. No macro, syntax, notation, axiom, sorry.
-/
import Derived.Test.YtllmlcmhmkkgcaaChecked
import GoSem.Claim
import GoSem.ClaimJoined
import GoSem.ClaimMapViews
import Derived.JoinedTies
import Derived.KernelRfl
namespace Go.Proofs.Ytllmlcmhmkkgcaa
/- THE CELL 'sum', in the pinned program and in every row, IS THE sha256 OF THE DUMP (.gsa) THAT YtllmlcmhmkkgcaaProg.lean LOADS. Nothing in Lean hashes anything: it is a label: what it is worth is what the hold of that sum in a sandbox is worth. -/
noncomputable def Try.pinned : Pinned := { name := "ytllmlcmhmkkgcaa", sum := "574afb1eea54aaf241c2a39b351d575450b2a74e4043e521cbde61499e37adb0", checked := Try.checked }
namespace Rows
def none {H : Type} : Left H := { results := [], args := [] }

/-- 'entaillaw5.LookParts': WHATEVER THE INPUT: true; the input reads as it did. -/
def lookPartsSpec : ChangeSpec := { name := "lookParts", fn := fun _ => fun
  | [d1, d2, d3] => { results := [.lit (.bool true)], args := [d1, d2, d3] }
  | _ => none }
def lookPartsRow : OpenClaim := { program := "ytllmlcmhmkkgcaa", sum := "574afb1eea54aaf241c2a39b351d575450b2a74e4043e521cbde61499e37adb0", func := "entail/entaillaw5.LookParts", spec := "lookParts", inPlace := ["internal/bytealg.abigen_runtime_cmpstring"], unfollowed := true, recurses := true, plainKeys := false, apart := false }
def LookPartsSaid : Prop := lookPartsRow.holds Try.pinned (OpenSpec.ofChange lookPartsSpec)

/-- ITS FALSE NEIGHBOUR: 'it returns false'. Refute it at one input. -/
def lookPartsWrong : ChangeSpec := { name := "lookParts", fn := fun _ => fun
  | [d1, d2, d3] => { results := [.lit (.bool false)], args := [d1, d2, d3] }
  | _ => none }
def LookPartsWrongFalsely : Prop := lookPartsRow.holds Try.pinned (OpenSpec.ofChange lookPartsWrong)

/-- 'entaillaw5.LookTells': WHATEVER THE INPUT: true; the input reads as it did. -/
def lookTellsSpec : ChangeSpec := { name := "lookTells", fn := fun _ => fun
  | [d1, d2, d3, d4] => { results := [.lit (.bool true)], args := [d1, d2, d3, d4] }
  | _ => none }
def lookTellsRow : OpenClaim := { program := "ytllmlcmhmkkgcaa", sum := "574afb1eea54aaf241c2a39b351d575450b2a74e4043e521cbde61499e37adb0", func := "entail/entaillaw5.LookTells", spec := "lookTells", inPlace := ["internal/bytealg.abigen_runtime_cmpstring"], unfollowed := true, recurses := true, plainKeys := false, apart := false }
def LookTellsSaid : Prop := lookTellsRow.holds Try.pinned (OpenSpec.ofChange lookTellsSpec)

/-- ITS FALSE NEIGHBOUR: 'it returns false'. Refute it at one input. -/
def lookTellsWrong : ChangeSpec := { name := "lookTells", fn := fun _ => fun
  | [d1, d2, d3, d4] => { results := [.lit (.bool false)], args := [d1, d2, d3, d4] }
  | _ => none }
def LookTellsWrongFalsely : Prop := lookTellsRow.holds Try.pinned (OpenSpec.ofChange lookTellsWrong)

/-- 'entaillaw5.LookBoth': WHATEVER THE INPUT: true; the input reads as it did. -/
def lookBothSpec : ChangeSpec := { name := "lookBoth", fn := fun _ => fun
  | [d1, d2] => { results := [.lit (.bool true)], args := [d1, d2] }
  | _ => none }
def lookBothRow : OpenClaim := { program := "ytllmlcmhmkkgcaa", sum := "574afb1eea54aaf241c2a39b351d575450b2a74e4043e521cbde61499e37adb0", func := "entail/entaillaw5.LookBoth", spec := "lookBoth", inPlace := ["internal/bytealg.abigen_runtime_cmpstring"], unfollowed := true, recurses := true, plainKeys := false, apart := false }
def LookBothSaid : Prop := lookBothRow.holds Try.pinned (OpenSpec.ofChange lookBothSpec)

/-- ITS FALSE NEIGHBOUR: 'it returns false'. Refute it at one input. -/
def lookBothWrong : ChangeSpec := { name := "lookBoth", fn := fun _ => fun
  | [d1, d2] => { results := [.lit (.bool false)], args := [d1, d2] }
  | _ => none }
def LookBothWrongFalsely : Prop := lookBothRow.holds Try.pinned (OpenSpec.ofChange lookBothWrong)

/- THE SECOND FORM. 'bulk': how many values and letters a reading holds, each counted each time it is reached (what is shared counts as often as it is met; a slice's spare places count too). A statement '..UptoSaid' is the law's where the arguments, and the package variables that the reading takes, are together of bulk at most 1048576: NARROWER than '..Said'. Prove '..Said' where nothing that the law and all that it calls make is longer than what came in: it says more and counts as full. Else prove '..UptoSaid'. A law counts once. -/
mutual
def uptoBulk {H : Type} : DataW H → Nat
  | .lit (.string bytes) => bytes.length + 1
  | .lit _ => 1
  | .nil => 1
  | .ptr d => uptoBulk d + 1
  | .slice elems spare => uptoBulkAll elems + uptoBulkAll spare + 1
  | .agg parts => uptoBulkAll parts + 1
  | .iface _ d => uptoBulk d + 1
  | .map entries => uptoBulkEntries entries + 1
  | .held _ => 1
def uptoBulkAll {H : Type} : List (DataW H) → Nat
  | [] => 0
  | d :: r => uptoBulk d + uptoBulkAll r
def uptoBulkEntries {H : Type} : List (Lit × DataW H) → Nat
  | [] => 0
  | x :: r => uptoBulkEntry x + uptoBulkEntries r
def uptoBulkEntry {H : Type} : Lit × DataW H → Nat
  | (.string bytes, d) => bytes.length + uptoBulk d + 1
  | (_, d) => uptoBulk d + 1
 end
def uptoSmall : (H : Type) → List (DataW H) → Bool := fun _ ds => decide (uptoBulkAll ds ≤ 1048576)
def OpenSpec.upto (s : _root_.Go.ChangeSpec) : _root_.Go.OpenSpec := { _root_.Go.OpenSpec.ofChange s with cond := some uptoSmall }

/-- 'entaillaw5.LookParts', WHERE WHAT IT READS IS OF BULK AT MOST 1048576: true; the input reads as it did. -/
def lookPartsUptoRow : OpenClaim := { program := "ytllmlcmhmkkgcaa", sum := "574afb1eea54aaf241c2a39b351d575450b2a74e4043e521cbde61499e37adb0", func := "entail/entaillaw5.LookParts", spec := "lookParts", inPlace := ["internal/bytealg.abigen_runtime_cmpstring"], unfollowed := true, recurses := true, plainKeys := false, apart := false, narrowed := true }
def LookPartsUptoSaid : Prop := lookPartsUptoRow.holds Try.pinned (OpenSpec.upto lookPartsSpec)

/-- 'entaillaw5.LookTells', WHERE WHAT IT READS IS OF BULK AT MOST 1048576: true; the input reads as it did. -/
def lookTellsUptoRow : OpenClaim := { program := "ytllmlcmhmkkgcaa", sum := "574afb1eea54aaf241c2a39b351d575450b2a74e4043e521cbde61499e37adb0", func := "entail/entaillaw5.LookTells", spec := "lookTells", inPlace := ["internal/bytealg.abigen_runtime_cmpstring"], unfollowed := true, recurses := true, plainKeys := false, apart := false, narrowed := true }
def LookTellsUptoSaid : Prop := lookTellsUptoRow.holds Try.pinned (OpenSpec.upto lookTellsSpec)

/-- 'entaillaw5.LookBoth', WHERE WHAT IT READS IS OF BULK AT MOST 1048576: true; the input reads as it did. -/
def lookBothUptoRow : OpenClaim := { program := "ytllmlcmhmkkgcaa", sum := "574afb1eea54aaf241c2a39b351d575450b2a74e4043e521cbde61499e37adb0", func := "entail/entaillaw5.LookBoth", spec := "lookBoth", inPlace := ["internal/bytealg.abigen_runtime_cmpstring"], unfollowed := true, recurses := true, plainKeys := false, apart := false, narrowed := true }
def LookBothUptoSaid : Prop := lookBothUptoRow.holds Try.pinned (OpenSpec.upto lookBothSpec)

end Rows
end Go.Proofs.Ytllmlcmhmkkgcaa
