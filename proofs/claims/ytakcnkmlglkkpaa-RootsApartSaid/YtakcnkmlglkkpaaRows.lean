/-
  No cell of these rows narrows 'for every input' (looked for: loops, veiled, ifaces, maps, wideKeys, modest, calm, conditions, laid).
  DERIVED. THE GIVEN ROWS OF THIS SEAT. 7 by the template 'for every input the law returns true; each argument reads behind the call as it read before'; 0 by the template 'total and deterministic' (their statements: YtakcnkmlglkkpaaTotals.lean).
  GIVEN WITH THE SEED: the statements are not yours to turn. If you find one false, say at which input.
  Laid BY PROGRAM, IN A SANDBOX (cutbox-rows.mjs): the forced cells as the released guide's own fill.sh prints them over the translation f395b11fc36b9f8c… (all of the seat's roots in one cut). By AI agents, Wed Nov 11 2026. No macro, syntax, notation, axiom, sorry.
-/
import Derived.Test.YtakcnkmlglkkpaaChecked
import GoSem.Claim
import GoSem.ClaimJoined
import GoSem.ClaimMapViews
import Derived.JoinedTies
import Derived.KernelRfl
namespace Go.Proofs.Ytakcnkmlglkkpaa
/- THE CELL 'sum', in the pinned program and in every row, IS THE sha256 OF THE DUMP (.gsa) THAT YtakcnkmlglkkpaaProg.lean LOADS. Nothing in Lean hashes anything: it is a label: what it is worth is what the hold of that sum in a sandbox is worth. -/
noncomputable def Try.pinned : Pinned := { name := "ytakcnkmlglkkpaa", sum := "f395b11fc36b9f8ce58403663e717ac9b5c956021109f1b87746d9b7c9add45e", checked := Try.checked }
namespace Rows
def none {H : Type} : Left H := { results := [], args := [] }

/-- 'gleanerlaw13.RootsNames': WHATEVER THE INPUT: true; the input reads as it did. -/
def rootsNamesSpec : ChangeSpec := { name := "rootsNames", fn := fun _ => fun
  | [] => { results := [.lit (.bool true)], args := [] }
  | _ => none }
def rootsNamesRow : OpenClaim := { program := "ytakcnkmlglkkpaa", sum := "f395b11fc36b9f8ce58403663e717ac9b5c956021109f1b87746d9b7c9add45e", func := "gleaner/gleanerlaw13.RootsNames", spec := "rootsNames", apart := false }
def RootsNamesSaid : Prop := rootsNamesRow.holds Try.pinned (OpenSpec.ofChange rootsNamesSpec)

/-- ITS FALSE NEIGHBOUR: 'it returns false'. Refute it at one input. -/
def rootsNamesWrong : ChangeSpec := { name := "rootsNames", fn := fun _ => fun
  | [] => { results := [.lit (.bool false)], args := [] }
  | _ => none }
def RootsNamesWrongFalsely : Prop := rootsNamesRow.holds Try.pinned (OpenSpec.ofChange rootsNamesWrong)

/-- 'gleanerlaw13.RootsNamed': WHATEVER THE INPUT: true; the input reads as it did. -/
def rootsNamedSpec : ChangeSpec := { name := "rootsNamed", fn := fun _ => fun
  | [d] => { results := [.lit (.bool true)], args := [d] }
  | _ => none }
def rootsNamedRow : OpenClaim := { program := "ytakcnkmlglkkpaa", sum := "f395b11fc36b9f8ce58403663e717ac9b5c956021109f1b87746d9b7c9add45e", func := "gleaner/gleanerlaw13.RootsNamed", spec := "rootsNamed", apart := false }
def RootsNamedSaid : Prop := rootsNamedRow.holds Try.pinned (OpenSpec.ofChange rootsNamedSpec)

/-- ITS FALSE NEIGHBOUR: 'it returns false'. Refute it at one input. -/
def rootsNamedWrong : ChangeSpec := { name := "rootsNamed", fn := fun _ => fun
  | [d] => { results := [.lit (.bool false)], args := [d] }
  | _ => none }
def RootsNamedWrongFalsely : Prop := rootsNamedRow.holds Try.pinned (OpenSpec.ofChange rootsNamedWrong)

/-- 'gleanerlaw13.RootsPlays': WHATEVER THE INPUT: true; the input reads as it did. -/
def rootsPlaysSpec : ChangeSpec := { name := "rootsPlays", fn := fun _ => fun
  | [d] => { results := [.lit (.bool true)], args := [d] }
  | _ => none }
def rootsPlaysRow : OpenClaim := { program := "ytakcnkmlglkkpaa", sum := "f395b11fc36b9f8ce58403663e717ac9b5c956021109f1b87746d9b7c9add45e", func := "gleaner/gleanerlaw13.RootsPlays", spec := "rootsPlays", unfollowed := true, recurses := true, apart := false }
def RootsPlaysSaid : Prop := rootsPlaysRow.holds Try.pinned (OpenSpec.ofChange rootsPlaysSpec)

/-- ITS FALSE NEIGHBOUR: 'it returns false'. Refute it at one input. -/
def rootsPlaysWrong : ChangeSpec := { name := "rootsPlays", fn := fun _ => fun
  | [d] => { results := [.lit (.bool false)], args := [d] }
  | _ => none }
def RootsPlaysWrongFalsely : Prop := rootsPlaysRow.holds Try.pinned (OpenSpec.ofChange rootsPlaysWrong)

/-- 'gleanerlaw13.RootsStay': WHATEVER THE INPUT: true; the input reads as it did. -/
def rootsStaySpec : ChangeSpec := { name := "rootsStay", fn := fun _ => fun
  | [d] => { results := [.lit (.bool true)], args := [d] }
  | _ => none }
def rootsStayRow : OpenClaim := { program := "ytakcnkmlglkkpaa", sum := "f395b11fc36b9f8ce58403663e717ac9b5c956021109f1b87746d9b7c9add45e", func := "gleaner/gleanerlaw13.RootsStay", spec := "rootsStay", unfollowed := true, recurses := true, apart := false }
def RootsStaySaid : Prop := rootsStayRow.holds Try.pinned (OpenSpec.ofChange rootsStaySpec)

/-- ITS FALSE NEIGHBOUR: 'it returns false'. Refute it at one input. -/
def rootsStayWrong : ChangeSpec := { name := "rootsStay", fn := fun _ => fun
  | [d] => { results := [.lit (.bool false)], args := [d] }
  | _ => none }
def RootsStayWrongFalsely : Prop := rootsStayRow.holds Try.pinned (OpenSpec.ofChange rootsStayWrong)

/-- 'gleanerlaw13.RootsLaid': WHATEVER THE INPUT: true; the input reads as it did. -/
def rootsLaidSpec : ChangeSpec := { name := "rootsLaid", fn := fun _ => fun
  | [d1, d2, d3] => { results := [.lit (.bool true)], args := [d1, d2, d3] }
  | _ => none }
def rootsLaidRow : OpenClaim := { program := "ytakcnkmlglkkpaa", sum := "f395b11fc36b9f8ce58403663e717ac9b5c956021109f1b87746d9b7c9add45e", func := "gleaner/gleanerlaw13.RootsLaid", spec := "rootsLaid", unfollowed := true, recurses := true, apart := false }
def RootsLaidSaid : Prop := rootsLaidRow.holds Try.pinned (OpenSpec.ofChange rootsLaidSpec)

/-- ITS FALSE NEIGHBOUR: 'it returns false'. Refute it at one input. -/
def rootsLaidWrong : ChangeSpec := { name := "rootsLaid", fn := fun _ => fun
  | [d1, d2, d3] => { results := [.lit (.bool false)], args := [d1, d2, d3] }
  | _ => none }
def RootsLaidWrongFalsely : Prop := rootsLaidRow.holds Try.pinned (OpenSpec.ofChange rootsLaidWrong)

/-- 'gleanerlaw13.RootsSteps': WHATEVER THE INPUT: true; the input reads as it did. -/
def rootsStepsSpec : ChangeSpec := { name := "rootsSteps", fn := fun _ => fun
  | [d] => { results := [.lit (.bool true)], args := [d] }
  | _ => none }
def rootsStepsRow : OpenClaim := { program := "ytakcnkmlglkkpaa", sum := "f395b11fc36b9f8ce58403663e717ac9b5c956021109f1b87746d9b7c9add45e", func := "gleaner/gleanerlaw13.RootsSteps", spec := "rootsSteps", unfollowed := true, recurses := true, apart := false }
def RootsStepsSaid : Prop := rootsStepsRow.holds Try.pinned (OpenSpec.ofChange rootsStepsSpec)

/-- ITS FALSE NEIGHBOUR: 'it returns false'. Refute it at one input. -/
def rootsStepsWrong : ChangeSpec := { name := "rootsSteps", fn := fun _ => fun
  | [d] => { results := [.lit (.bool false)], args := [d] }
  | _ => none }
def RootsStepsWrongFalsely : Prop := rootsStepsRow.holds Try.pinned (OpenSpec.ofChange rootsStepsWrong)

/-- 'gleanerlaw13.RootsApart': WHATEVER THE INPUT: true; the input reads as it did. -/
def rootsApartSpec : ChangeSpec := { name := "rootsApart", fn := fun _ => fun
  | [d1, d2] => { results := [.lit (.bool true)], args := [d1, d2] }
  | _ => none }
def rootsApartRow : OpenClaim := { program := "ytakcnkmlglkkpaa", sum := "f395b11fc36b9f8ce58403663e717ac9b5c956021109f1b87746d9b7c9add45e", func := "gleaner/gleanerlaw13.RootsApart", spec := "rootsApart", unfollowed := true, recurses := true, apart := false }
def RootsApartSaid : Prop := rootsApartRow.holds Try.pinned (OpenSpec.ofChange rootsApartSpec)

/-- ITS FALSE NEIGHBOUR: 'it returns false'. Refute it at one input. -/
def rootsApartWrong : ChangeSpec := { name := "rootsApart", fn := fun _ => fun
  | [d1, d2] => { results := [.lit (.bool false)], args := [d1, d2] }
  | _ => none }
def RootsApartWrongFalsely : Prop := rootsApartRow.holds Try.pinned (OpenSpec.ofChange rootsApartWrong)

/- THE SECOND FORM. 'bulk': how many values and letters a reading holds, each counted each time it is reached (what is shared counts as often as it is met; a slice's spare places count too). A statement '..UptoSaid' is the law's where the arguments, and the package variables that the reading takes, are together of bulk at most 1048576: NARROWER than '..Said'. Prove '..Said' where nothing that the law and all that it calls make is longer than what came in: it says more and counts as full. Else prove '..UptoSaid'. A law counts once. -/
mutual
def uptoBulk {H : Type} : DataW H → Nat
  | .lit (.string bytes) => bytes.length + 1
  | .lit _ => 1
  | .nil => 1
  | .ptr d => uptoBulk d + 1
  | .slice elems spare => uptoBulkAll elems + uptoBulkAll spare + 1
  | .agg parts => uptoBulkAll parts + 1
  | .iface _ d => uptoBulk d + 1
  | .map entries => uptoBulkEntries entries + 1
  | .held _ => 1
def uptoBulkAll {H : Type} : List (DataW H) → Nat
  | [] => 0
  | d :: r => uptoBulk d + uptoBulkAll r
def uptoBulkEntries {H : Type} : List (Lit × DataW H) → Nat
  | [] => 0
  | x :: r => uptoBulkEntry x + uptoBulkEntries r
def uptoBulkEntry {H : Type} : Lit × DataW H → Nat
  | (.string bytes, d) => bytes.length + uptoBulk d + 1
  | (_, d) => uptoBulk d + 1
 end
def uptoSmall : (H : Type) → List (DataW H) → Bool := fun _ ds => decide (uptoBulkAll ds ≤ 1048576)
def OpenSpec.upto (s : _root_.Go.ChangeSpec) : _root_.Go.OpenSpec := { _root_.Go.OpenSpec.ofChange s with cond := some uptoSmall }

/-- 'gleanerlaw13.RootsNames', WHERE WHAT IT READS IS OF BULK AT MOST 1048576: true; the input reads as it did. -/
def rootsNamesUptoRow : OpenClaim := { program := "ytakcnkmlglkkpaa", sum := "f395b11fc36b9f8ce58403663e717ac9b5c956021109f1b87746d9b7c9add45e", func := "gleaner/gleanerlaw13.RootsNames", spec := "rootsNames", apart := false, narrowed := true }
def RootsNamesUptoSaid : Prop := rootsNamesUptoRow.holds Try.pinned (OpenSpec.upto rootsNamesSpec)

/-- 'gleanerlaw13.RootsNamed', WHERE WHAT IT READS IS OF BULK AT MOST 1048576: true; the input reads as it did. -/
def rootsNamedUptoRow : OpenClaim := { program := "ytakcnkmlglkkpaa", sum := "f395b11fc36b9f8ce58403663e717ac9b5c956021109f1b87746d9b7c9add45e", func := "gleaner/gleanerlaw13.RootsNamed", spec := "rootsNamed", apart := false, narrowed := true }
def RootsNamedUptoSaid : Prop := rootsNamedUptoRow.holds Try.pinned (OpenSpec.upto rootsNamedSpec)

/-- 'gleanerlaw13.RootsPlays', WHERE WHAT IT READS IS OF BULK AT MOST 1048576: true; the input reads as it did. -/
def rootsPlaysUptoRow : OpenClaim := { program := "ytakcnkmlglkkpaa", sum := "f395b11fc36b9f8ce58403663e717ac9b5c956021109f1b87746d9b7c9add45e", func := "gleaner/gleanerlaw13.RootsPlays", spec := "rootsPlays", unfollowed := true, recurses := true, apart := false, narrowed := true }
def RootsPlaysUptoSaid : Prop := rootsPlaysUptoRow.holds Try.pinned (OpenSpec.upto rootsPlaysSpec)

/-- 'gleanerlaw13.RootsStay', WHERE WHAT IT READS IS OF BULK AT MOST 1048576: true; the input reads as it did. -/
def rootsStayUptoRow : OpenClaim := { program := "ytakcnkmlglkkpaa", sum := "f395b11fc36b9f8ce58403663e717ac9b5c956021109f1b87746d9b7c9add45e", func := "gleaner/gleanerlaw13.RootsStay", spec := "rootsStay", unfollowed := true, recurses := true, apart := false, narrowed := true }
def RootsStayUptoSaid : Prop := rootsStayUptoRow.holds Try.pinned (OpenSpec.upto rootsStaySpec)

/-- 'gleanerlaw13.RootsLaid', WHERE WHAT IT READS IS OF BULK AT MOST 1048576: true; the input reads as it did. -/
def rootsLaidUptoRow : OpenClaim := { program := "ytakcnkmlglkkpaa", sum := "f395b11fc36b9f8ce58403663e717ac9b5c956021109f1b87746d9b7c9add45e", func := "gleaner/gleanerlaw13.RootsLaid", spec := "rootsLaid", unfollowed := true, recurses := true, apart := false, narrowed := true }
def RootsLaidUptoSaid : Prop := rootsLaidUptoRow.holds Try.pinned (OpenSpec.upto rootsLaidSpec)

/-- 'gleanerlaw13.RootsSteps', WHERE WHAT IT READS IS OF BULK AT MOST 1048576: true; the input reads as it did. -/
def rootsStepsUptoRow : OpenClaim := { program := "ytakcnkmlglkkpaa", sum := "f395b11fc36b9f8ce58403663e717ac9b5c956021109f1b87746d9b7c9add45e", func := "gleaner/gleanerlaw13.RootsSteps", spec := "rootsSteps", unfollowed := true, recurses := true, apart := false, narrowed := true }
def RootsStepsUptoSaid : Prop := rootsStepsUptoRow.holds Try.pinned (OpenSpec.upto rootsStepsSpec)

/-- 'gleanerlaw13.RootsApart', WHERE WHAT IT READS IS OF BULK AT MOST 1048576: true; the input reads as it did. -/
def rootsApartUptoRow : OpenClaim := { program := "ytakcnkmlglkkpaa", sum := "f395b11fc36b9f8ce58403663e717ac9b5c956021109f1b87746d9b7c9add45e", func := "gleaner/gleanerlaw13.RootsApart", spec := "rootsApart", unfollowed := true, recurses := true, apart := false, narrowed := true }
def RootsApartUptoSaid : Prop := rootsApartUptoRow.holds Try.pinned (OpenSpec.upto rootsApartSpec)

end Rows
end Go.Proofs.Ytakcnkmlglkkpaa
