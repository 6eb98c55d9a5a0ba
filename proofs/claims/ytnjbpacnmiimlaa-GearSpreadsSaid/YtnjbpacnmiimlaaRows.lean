/-
  No cell of these rows narrows 'for every input' (looked for: loops, veiled, ifaces, maps, wideKeys, modest, calm, conditions, laid).
  DERIVED. THE GIVEN ROWS OF THIS SEAT. 2 by the template 'for every input the law returns true; each argument reads behind the call as it read before'; 0 by the template 'total and deterministic' (their statements: YtnjbpacnmiimlaaTotals.lean).
  GIVEN WITH THE SEED: the statements are not yours to turn. If you find one false, say at which input.
  Laid BY PROGRAM, IN A SANDBOX (cutbox-rows.mjs): the forced cells as the released guide's own fill.sh prints them over the translation 44664983aef94a4b… (all of the seat's roots in one cut). By AI agents, Wed Nov 11 2026. No macro, syntax, notation, axiom, sorry.
-/
import Derived.Test.YtnjbpacnmiimlaaChecked
import GoSem.Claim
import GoSem.ClaimJoined
import GoSem.ClaimMapViews
import Derived.JoinedTies
import Derived.KernelRfl
namespace Go.Proofs.Ytnjbpacnmiimlaa
/- THE CELL 'sum', in the pinned program and in every row, IS THE sha256 OF THE DUMP (.gsa) THAT YtnjbpacnmiimlaaProg.lean LOADS. Nothing in Lean hashes anything: it is a label: what it is worth is what the hold of that sum in a sandbox is worth. -/
noncomputable def Try.pinned : Pinned := { name := "ytnjbpacnmiimlaa", sum := "44664983aef94a4b48bb76af699bae402af251790b8e243ee599b92e2f4a36b4", checked := Try.checked }
namespace Rows
def none {H : Type} : Left H := { results := [], args := [] }

/-- 'gleanerlaw05.GearWords': WHATEVER THE INPUT: true; the input reads as it did. -/
def gearWordsSpec : ChangeSpec := { name := "gearWords", fn := fun _ => fun
  | [d] => { results := [.lit (.bool true)], args := [d] }
  | _ => none }
def gearWordsRow : OpenClaim := { program := "ytnjbpacnmiimlaa", sum := "44664983aef94a4b48bb76af699bae402af251790b8e243ee599b92e2f4a36b4", func := "gleaner/gleanerlaw05.GearWords", spec := "gearWords", apart := false }
def GearWordsSaid : Prop := gearWordsRow.holds Try.pinned (OpenSpec.ofChange gearWordsSpec)

/-- ITS FALSE NEIGHBOUR: 'it returns false'. Refute it at one input. -/
def gearWordsWrong : ChangeSpec := { name := "gearWords", fn := fun _ => fun
  | [d] => { results := [.lit (.bool false)], args := [d] }
  | _ => none }
def GearWordsWrongFalsely : Prop := gearWordsRow.holds Try.pinned (OpenSpec.ofChange gearWordsWrong)

/-- 'gleanerlaw05.GearSpreads': WHATEVER THE INPUT: true; the input reads as it did. -/
def gearSpreadsSpec : ChangeSpec := { name := "gearSpreads", fn := fun _ => fun
  | [d] => { results := [.lit (.bool true)], args := [d] }
  | _ => none }
def gearSpreadsRow : OpenClaim := { program := "ytnjbpacnmiimlaa", sum := "44664983aef94a4b48bb76af699bae402af251790b8e243ee599b92e2f4a36b4", func := "gleaner/gleanerlaw05.GearSpreads", spec := "gearSpreads", inPlace := ["math.sqrt"], apart := false }
def GearSpreadsSaid : Prop := gearSpreadsRow.holds Try.pinned (OpenSpec.ofChange gearSpreadsSpec)

/-- ITS FALSE NEIGHBOUR: 'it returns false'. Refute it at one input. -/
def gearSpreadsWrong : ChangeSpec := { name := "gearSpreads", fn := fun _ => fun
  | [d] => { results := [.lit (.bool false)], args := [d] }
  | _ => none }
def GearSpreadsWrongFalsely : Prop := gearSpreadsRow.holds Try.pinned (OpenSpec.ofChange gearSpreadsWrong)

/- THE SECOND FORM. 'bulk': how many values and letters a reading holds, each counted each time it is reached (what is shared counts as often as it is met; a slice's spare places count too). A statement '..UptoSaid' is the law's where the arguments, and the package variables that the reading takes, are together of bulk at most 1048576: NARROWER than '..Said'. Prove '..Said' where nothing that the law and all that it calls make is longer than what came in: it says more and counts as full. Else prove '..UptoSaid'. A law counts once. -/
mutual
def uptoBulk {H : Type} : DataW H → Nat
  | .lit (.string bytes) => bytes.length + 1
  | .lit _ => 1
  | .nil => 1
  | .ptr d => uptoBulk d + 1
  | .slice elems spare => uptoBulkAll elems + uptoBulkAll spare + 1
  | .agg parts => uptoBulkAll parts + 1
  | .iface _ d => uptoBulk d + 1
  | .map entries => uptoBulkEntries entries + 1
  | .held _ => 1
def uptoBulkAll {H : Type} : List (DataW H) → Nat
  | [] => 0
  | d :: r => uptoBulk d + uptoBulkAll r
def uptoBulkEntries {H : Type} : List (Lit × DataW H) → Nat
  | [] => 0
  | x :: r => uptoBulkEntry x + uptoBulkEntries r
def uptoBulkEntry {H : Type} : Lit × DataW H → Nat
  | (.string bytes, d) => bytes.length + uptoBulk d + 1
  | (_, d) => uptoBulk d + 1
 end
def uptoSmall : (H : Type) → List (DataW H) → Bool := fun _ ds => decide (uptoBulkAll ds ≤ 1048576)
def OpenSpec.upto (s : _root_.Go.ChangeSpec) : _root_.Go.OpenSpec := { _root_.Go.OpenSpec.ofChange s with cond := some uptoSmall }

/-- 'gleanerlaw05.GearWords', WHERE WHAT IT READS IS OF BULK AT MOST 1048576: true; the input reads as it did. -/
def gearWordsUptoRow : OpenClaim := { program := "ytnjbpacnmiimlaa", sum := "44664983aef94a4b48bb76af699bae402af251790b8e243ee599b92e2f4a36b4", func := "gleaner/gleanerlaw05.GearWords", spec := "gearWords", apart := false, narrowed := true }
def GearWordsUptoSaid : Prop := gearWordsUptoRow.holds Try.pinned (OpenSpec.upto gearWordsSpec)

/-- 'gleanerlaw05.GearSpreads', WHERE WHAT IT READS IS OF BULK AT MOST 1048576: true; the input reads as it did. -/
def gearSpreadsUptoRow : OpenClaim := { program := "ytnjbpacnmiimlaa", sum := "44664983aef94a4b48bb76af699bae402af251790b8e243ee599b92e2f4a36b4", func := "gleaner/gleanerlaw05.GearSpreads", spec := "gearSpreads", inPlace := ["math.sqrt"], apart := false, narrowed := true }
def GearSpreadsUptoSaid : Prop := gearSpreadsUptoRow.holds Try.pinned (OpenSpec.upto gearSpreadsSpec)

end Rows
end Go.Proofs.Ytnjbpacnmiimlaa
