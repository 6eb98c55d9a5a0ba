/-
  No cell of these rows narrows 'for every input' (looked for: loops, veiled, ifaces, maps, wideKeys, modest, calm, conditions, laid).
  DERIVED. THE GIVEN ROWS OF THIS SEAT. 4 by the template 'for every input the law returns true; each argument reads behind the call as it read before'; 0 by the template 'total and deterministic' (their statements: YtlolnpilpdkbkaaTotals.lean).
  GIVEN WITH THE SEED: the statements are not yours to turn. If you find one false, say at which input.
  Laid BY PROGRAM, IN A SANDBOX (cutbox-rows.mjs): the forced cells as the released guide's own fill.sh prints them over the translation 580ae1bc7505d71e… (all of the seat's roots in one cut). By AI agents, Wed Nov 11 2026. No macro, syntax, notation, axiom, sorry.
-/
import Derived.Test.YtlolnpilpdkbkaaChecked
import GoSem.Claim
import GoSem.ClaimJoined
import GoSem.ClaimMapViews
import Derived.JoinedTies
import Derived.KernelRfl
namespace Go.Proofs.Ytlolnpilpdkbkaa
/- THE CELL 'sum', in the pinned program and in every row, IS THE sha256 OF THE DUMP (.gsa) THAT YtlolnpilpdkbkaaProg.lean LOADS. Nothing in Lean hashes anything: it is a label: what it is worth is what the hold of that sum in a sandbox is worth. -/
noncomputable def Try.pinned : Pinned := { name := "ytlolnpilpdkbkaa", sum := "580ae1bc7505d71ee39a76657c55fe318754617d681d623f6049807f600d705b", checked := Try.checked }
namespace Rows
def none {H : Type} : Left H := { results := [], args := [] }

/-- 'gleanerlaw03.KeyNames': WHATEVER THE INPUT: true; the input reads as it did. -/
def keyNamesSpec : ChangeSpec := { name := "keyNames", fn := fun _ => fun
  | [] => { results := [.lit (.bool true)], args := [] }
  | _ => none }
def keyNamesRow : OpenClaim := { program := "ytlolnpilpdkbkaa", sum := "580ae1bc7505d71ee39a76657c55fe318754617d681d623f6049807f600d705b", func := "gleaner/gleanerlaw03.KeyNames", spec := "keyNames", plainKeys := false, apart := false }
def KeyNamesSaid : Prop := keyNamesRow.holds Try.pinned (OpenSpec.ofChange keyNamesSpec)

/-- ITS FALSE NEIGHBOUR: 'it returns false'. Refute it at one input. -/
def keyNamesWrong : ChangeSpec := { name := "keyNames", fn := fun _ => fun
  | [] => { results := [.lit (.bool false)], args := [] }
  | _ => none }
def KeyNamesWrongFalsely : Prop := keyNamesRow.holds Try.pinned (OpenSpec.ofChange keyNamesWrong)

/-- 'gleanerlaw03.KeyDigits': WHATEVER THE INPUT: true; the input reads as it did. -/
def keyDigitsSpec : ChangeSpec := { name := "keyDigits", fn := fun _ => fun
  | [d] => { results := [.lit (.bool true)], args := [d] }
  | _ => none }
def keyDigitsRow : OpenClaim := { program := "ytlolnpilpdkbkaa", sum := "580ae1bc7505d71ee39a76657c55fe318754617d681d623f6049807f600d705b", func := "gleaner/gleanerlaw03.KeyDigits", spec := "keyDigits", inPlace := ["internal/abi.NoEscape", "internal/bytealg.IndexByteString", "internal/bytealg.Compare"], plainKeys := false, apart := false }
def KeyDigitsSaid : Prop := keyDigitsRow.holds Try.pinned (OpenSpec.ofChange keyDigitsSpec)

/-- ITS FALSE NEIGHBOUR: 'it returns false'. Refute it at one input. -/
def keyDigitsWrong : ChangeSpec := { name := "keyDigits", fn := fun _ => fun
  | [d] => { results := [.lit (.bool false)], args := [d] }
  | _ => none }
def KeyDigitsWrongFalsely : Prop := keyDigitsRow.holds Try.pinned (OpenSpec.ofChange keyDigitsWrong)

/-- 'gleanerlaw03.KeyAlgebra': WHATEVER THE INPUT: true; the input reads as it did. -/
def keyAlgebraSpec : ChangeSpec := { name := "keyAlgebra", fn := fun _ => fun
  | [d1, d2] => { results := [.lit (.bool true)], args := [d1, d2] }
  | _ => none }
def keyAlgebraRow : OpenClaim := { program := "ytlolnpilpdkbkaa", sum := "580ae1bc7505d71ee39a76657c55fe318754617d681d623f6049807f600d705b", func := "gleaner/gleanerlaw03.KeyAlgebra", spec := "keyAlgebra", inPlace := ["internal/bytealg.Compare", "internal/abi.NoEscape", "internal/bytealg.IndexByteString"], unfollowed := true, recurses := true, plainKeys := false, apart := false }
def KeyAlgebraSaid : Prop := keyAlgebraRow.holds Try.pinned (OpenSpec.ofChange keyAlgebraSpec)

/-- ITS FALSE NEIGHBOUR: 'it returns false'. Refute it at one input. -/
def keyAlgebraWrong : ChangeSpec := { name := "keyAlgebra", fn := fun _ => fun
  | [d1, d2] => { results := [.lit (.bool false)], args := [d1, d2] }
  | _ => none }
def KeyAlgebraWrongFalsely : Prop := keyAlgebraRow.holds Try.pinned (OpenSpec.ofChange keyAlgebraWrong)

/-- 'gleanerlaw03.KeySets': WHATEVER THE INPUT: true; the input reads as it did. -/
def keySetsSpec : ChangeSpec := { name := "keySets", fn := fun _ => fun
  | [d] => { results := [.lit (.bool true)], args := [d] }
  | _ => none }
def keySetsRow : OpenClaim := { program := "ytlolnpilpdkbkaa", sum := "580ae1bc7505d71ee39a76657c55fe318754617d681d623f6049807f600d705b", func := "gleaner/gleanerlaw03.KeySets", spec := "keySets", inPlace := ["internal/abi.NoEscape", "internal/bytealg.Compare", "internal/bytealg.IndexByteString"], unfollowed := true, recurses := true, plainKeys := false, apart := false }
def KeySetsSaid : Prop := keySetsRow.holds Try.pinned (OpenSpec.ofChange keySetsSpec)

/-- ITS FALSE NEIGHBOUR: 'it returns false'. Refute it at one input. -/
def keySetsWrong : ChangeSpec := { name := "keySets", fn := fun _ => fun
  | [d] => { results := [.lit (.bool false)], args := [d] }
  | _ => none }
def KeySetsWrongFalsely : Prop := keySetsRow.holds Try.pinned (OpenSpec.ofChange keySetsWrong)

/- THE SECOND FORM. 'bulk': how many values and letters a reading holds, each counted each time it is reached (what is shared counts as often as it is met; a slice's spare places count too). A statement '..UptoSaid' is the law's where the arguments, and the package variables that the reading takes, are together of bulk at most 1048576: NARROWER than '..Said'. Prove '..Said' where nothing that the law and all that it calls make is longer than what came in: it says more and counts as full. Else prove '..UptoSaid'. A law counts once. -/
mutual
def uptoBulk {H : Type} : DataW H → Nat
  | .lit (.string bytes) => bytes.length + 1
  | .lit _ => 1
  | .nil => 1
  | .ptr d => uptoBulk d + 1
  | .slice elems spare => uptoBulkAll elems + uptoBulkAll spare + 1
  | .agg parts => uptoBulkAll parts + 1
  | .iface _ d => uptoBulk d + 1
  | .map entries => uptoBulkEntries entries + 1
  | .held _ => 1
def uptoBulkAll {H : Type} : List (DataW H) → Nat
  | [] => 0
  | d :: r => uptoBulk d + uptoBulkAll r
def uptoBulkEntries {H : Type} : List (Lit × DataW H) → Nat
  | [] => 0
  | x :: r => uptoBulkEntry x + uptoBulkEntries r
def uptoBulkEntry {H : Type} : Lit × DataW H → Nat
  | (.string bytes, d) => bytes.length + uptoBulk d + 1
  | (_, d) => uptoBulk d + 1
 end
def uptoSmall : (H : Type) → List (DataW H) → Bool := fun _ ds => decide (uptoBulkAll ds ≤ 1048576)
def OpenSpec.upto (s : _root_.Go.ChangeSpec) : _root_.Go.OpenSpec := { _root_.Go.OpenSpec.ofChange s with cond := some uptoSmall }

/-- 'gleanerlaw03.KeyNames', WHERE WHAT IT READS IS OF BULK AT MOST 1048576: true; the input reads as it did. -/
def keyNamesUptoRow : OpenClaim := { program := "ytlolnpilpdkbkaa", sum := "580ae1bc7505d71ee39a76657c55fe318754617d681d623f6049807f600d705b", func := "gleaner/gleanerlaw03.KeyNames", spec := "keyNames", plainKeys := false, apart := false, narrowed := true }
def KeyNamesUptoSaid : Prop := keyNamesUptoRow.holds Try.pinned (OpenSpec.upto keyNamesSpec)

/-- 'gleanerlaw03.KeyDigits', WHERE WHAT IT READS IS OF BULK AT MOST 1048576: true; the input reads as it did. -/
def keyDigitsUptoRow : OpenClaim := { program := "ytlolnpilpdkbkaa", sum := "580ae1bc7505d71ee39a76657c55fe318754617d681d623f6049807f600d705b", func := "gleaner/gleanerlaw03.KeyDigits", spec := "keyDigits", inPlace := ["internal/abi.NoEscape", "internal/bytealg.IndexByteString", "internal/bytealg.Compare"], plainKeys := false, apart := false, narrowed := true }
def KeyDigitsUptoSaid : Prop := keyDigitsUptoRow.holds Try.pinned (OpenSpec.upto keyDigitsSpec)

/-- 'gleanerlaw03.KeyAlgebra', WHERE WHAT IT READS IS OF BULK AT MOST 1048576: true; the input reads as it did. -/
def keyAlgebraUptoRow : OpenClaim := { program := "ytlolnpilpdkbkaa", sum := "580ae1bc7505d71ee39a76657c55fe318754617d681d623f6049807f600d705b", func := "gleaner/gleanerlaw03.KeyAlgebra", spec := "keyAlgebra", inPlace := ["internal/bytealg.Compare", "internal/abi.NoEscape", "internal/bytealg.IndexByteString"], unfollowed := true, recurses := true, plainKeys := false, apart := false, narrowed := true }
def KeyAlgebraUptoSaid : Prop := keyAlgebraUptoRow.holds Try.pinned (OpenSpec.upto keyAlgebraSpec)

/-- 'gleanerlaw03.KeySets', WHERE WHAT IT READS IS OF BULK AT MOST 1048576: true; the input reads as it did. -/
def keySetsUptoRow : OpenClaim := { program := "ytlolnpilpdkbkaa", sum := "580ae1bc7505d71ee39a76657c55fe318754617d681d623f6049807f600d705b", func := "gleaner/gleanerlaw03.KeySets", spec := "keySets", inPlace := ["internal/abi.NoEscape", "internal/bytealg.Compare", "internal/bytealg.IndexByteString"], unfollowed := true, recurses := true, plainKeys := false, apart := false, narrowed := true }
def KeySetsUptoSaid : Prop := keySetsUptoRow.holds Try.pinned (OpenSpec.upto keySetsSpec)

end Rows
end Go.Proofs.Ytlolnpilpdkbkaa
