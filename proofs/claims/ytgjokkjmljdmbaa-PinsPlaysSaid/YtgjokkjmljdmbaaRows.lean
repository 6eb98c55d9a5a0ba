/-
  No cell of these rows narrows 'for every input' (looked for: loops, veiled, ifaces, maps, wideKeys, modest, calm, conditions, laid).
  DERIVED. THE GIVEN ROWS OF THIS SEAT. 2 by the template 'for every input the law returns true; each argument reads behind the call as it read before'; 0 by the template 'total and deterministic' (their statements: YtgjokkjmljdmbaaTotals.lean).
  GIVEN WITH THE SEED: the statements are not yours to turn. If you find one false, say at which input.
  Laid BY PROGRAM, IN A SANDBOX (cutbox-rows.mjs): the forced cells as the released guide's own fill.sh prints them over the translation 41f23ec94bade942… (all of the seat's roots in one cut). By AI agents, Wed Nov 11 2026. No macro, syntax, notation, axiom, sorry.
-/
import Derived.Test.YtgjokkjmljdmbaaChecked
import GoSem.Claim
import GoSem.ClaimJoined
import GoSem.ClaimMapViews
import Derived.JoinedTies
import Derived.KernelRfl
namespace Go.Proofs.Ytgjokkjmljdmbaa
/- THE CELL 'sum', in the pinned program and in every row, IS THE sha256 OF THE DUMP (.gsa) THAT YtgjokkjmljdmbaaProg.lean LOADS. Nothing in Lean hashes anything: it is a label: what it is worth is what the hold of that sum in a sandbox is worth. -/
noncomputable def Try.pinned : Pinned := { name := "ytgjokkjmljdmbaa", sum := "41f23ec94bade942ab352e610f95b88cdab54a92578f074e7f4276b0785c6b6b", checked := Try.checked }
namespace Rows
def none {H : Type} : Left H := { results := [], args := [] }

/-- 'gleanerlaw14.PinsWalk': WHATEVER THE INPUT: true; the input reads as it did. -/
def pinsWalkSpec : ChangeSpec := { name := "pinsWalk", fn := fun _ => fun
  | [d1, d2] => { results := [.lit (.bool true)], args := [d1, d2] }
  | _ => none }
def pinsWalkRow : OpenClaim := { program := "ytgjokkjmljdmbaa", sum := "41f23ec94bade942ab352e610f95b88cdab54a92578f074e7f4276b0785c6b6b", func := "gleaner/gleanerlaw14.PinsWalk", spec := "pinsWalk", inPlace := ["internal/bytealg.Compare"], plainKeys := false, apart := false }
def PinsWalkSaid : Prop := pinsWalkRow.holds Try.pinned (OpenSpec.ofChange pinsWalkSpec)

/-- ITS FALSE NEIGHBOUR: 'it returns false'. Refute it at one input. -/
def pinsWalkWrong : ChangeSpec := { name := "pinsWalk", fn := fun _ => fun
  | [d1, d2] => { results := [.lit (.bool false)], args := [d1, d2] }
  | _ => none }
def PinsWalkWrongFalsely : Prop := pinsWalkRow.holds Try.pinned (OpenSpec.ofChange pinsWalkWrong)

/-- 'gleanerlaw14.PinsPlays': WHATEVER THE INPUT: true; the input reads as it did. -/
def pinsPlaysSpec : ChangeSpec := { name := "pinsPlays", fn := fun _ => fun
  | [d] => { results := [.lit (.bool true)], args := [d] }
  | _ => none }
def pinsPlaysRow : OpenClaim := { program := "ytgjokkjmljdmbaa", sum := "41f23ec94bade942ab352e610f95b88cdab54a92578f074e7f4276b0785c6b6b", func := "gleaner/gleanerlaw14.PinsPlays", spec := "pinsPlays", inPlace := ["internal/bytealg.Compare"], unfollowed := true, recurses := true, plainKeys := false, apart := false }
def PinsPlaysSaid : Prop := pinsPlaysRow.holds Try.pinned (OpenSpec.ofChange pinsPlaysSpec)

/-- ITS FALSE NEIGHBOUR: 'it returns false'. Refute it at one input. -/
def pinsPlaysWrong : ChangeSpec := { name := "pinsPlays", fn := fun _ => fun
  | [d] => { results := [.lit (.bool false)], args := [d] }
  | _ => none }
def PinsPlaysWrongFalsely : Prop := pinsPlaysRow.holds Try.pinned (OpenSpec.ofChange pinsPlaysWrong)

/- THE SECOND FORM. 'bulk': how many values and letters a reading holds, each counted each time it is reached (what is shared counts as often as it is met; a slice's spare places count too). A statement '..UptoSaid' is the law's where the arguments, and the package variables that the reading takes, are together of bulk at most 1048576: NARROWER than '..Said'. Prove '..Said' where nothing that the law and all that it calls make is longer than what came in: it says more and counts as full. Else prove '..UptoSaid'. A law counts once. -/
mutual
def uptoBulk {H : Type} : DataW H → Nat
  | .lit (.string bytes) => bytes.length + 1
  | .lit _ => 1
  | .nil => 1
  | .ptr d => uptoBulk d + 1
  | .slice elems spare => uptoBulkAll elems + uptoBulkAll spare + 1
  | .agg parts => uptoBulkAll parts + 1
  | .iface _ d => uptoBulk d + 1
  | .map entries => uptoBulkEntries entries + 1
  | .held _ => 1
def uptoBulkAll {H : Type} : List (DataW H) → Nat
  | [] => 0
  | d :: r => uptoBulk d + uptoBulkAll r
def uptoBulkEntries {H : Type} : List (Lit × DataW H) → Nat
  | [] => 0
  | x :: r => uptoBulkEntry x + uptoBulkEntries r
def uptoBulkEntry {H : Type} : Lit × DataW H → Nat
  | (.string bytes, d) => bytes.length + uptoBulk d + 1
  | (_, d) => uptoBulk d + 1
 end
def uptoSmall : (H : Type) → List (DataW H) → Bool := fun _ ds => decide (uptoBulkAll ds ≤ 1048576)
def OpenSpec.upto (s : _root_.Go.ChangeSpec) : _root_.Go.OpenSpec := { _root_.Go.OpenSpec.ofChange s with cond := some uptoSmall }

/-- 'gleanerlaw14.PinsWalk', WHERE WHAT IT READS IS OF BULK AT MOST 1048576: true; the input reads as it did. -/
def pinsWalkUptoRow : OpenClaim := { program := "ytgjokkjmljdmbaa", sum := "41f23ec94bade942ab352e610f95b88cdab54a92578f074e7f4276b0785c6b6b", func := "gleaner/gleanerlaw14.PinsWalk", spec := "pinsWalk", inPlace := ["internal/bytealg.Compare"], plainKeys := false, apart := false, narrowed := true }
def PinsWalkUptoSaid : Prop := pinsWalkUptoRow.holds Try.pinned (OpenSpec.upto pinsWalkSpec)

/-- 'gleanerlaw14.PinsPlays', WHERE WHAT IT READS IS OF BULK AT MOST 1048576: true; the input reads as it did. -/
def pinsPlaysUptoRow : OpenClaim := { program := "ytgjokkjmljdmbaa", sum := "41f23ec94bade942ab352e610f95b88cdab54a92578f074e7f4276b0785c6b6b", func := "gleaner/gleanerlaw14.PinsPlays", spec := "pinsPlays", inPlace := ["internal/bytealg.Compare"], unfollowed := true, recurses := true, plainKeys := false, apart := false, narrowed := true }
def PinsPlaysUptoSaid : Prop := pinsPlaysUptoRow.holds Try.pinned (OpenSpec.upto pinsPlaysSpec)

end Rows
end Go.Proofs.Ytgjokkjmljdmbaa
