/-
  NARROWER THAN 'FOR EVERY INPUT', by the rows' own cells (each row's printed sentence says how): GearCuts: laid · GearBack: laid · GearPieces: laid · GearWhole: laid · GearStreams: laid.
  DERIVED. THE GIVEN ROWS OF THIS SEAT. 5 by the template 'for every input the law returns true; each argument reads behind the call as it read before'; 0 by the template 'total and deterministic' (their statements: YtnjbpacnmiimlaaDoorTotals.lean).
  GIVEN WITH THE SEED: the statements are not yours to turn. If you find one false, say at which input.
  Laid BY PROGRAM, IN A SANDBOX (cutbox-rows.mjs): the forced cells as the released guide's own fill.sh prints them over the translation 40ec4364047e5066… (all of the seat's roots in one cut). By AI agents, Wed Nov 11 2026. No macro, syntax, notation, axiom, sorry.
-/
import Derived.Test.YtnjbpacnmiimlaaDoorChecked
import GoSem.Claim
import GoSem.ClaimJoined
import GoSem.ClaimMapViews
import Derived.JoinedTies
import Derived.KernelRfl
namespace Go.Proofs.YtnjbpacnmiimlaaDoor
/- THE CELL 'sum', in the pinned program and in every row, IS THE sha256 OF THE DUMP (.gsa) THAT YtnjbpacnmiimlaaDoorProg.lean LOADS. Nothing in Lean hashes anything: it is a label: what it is worth is what the hold of that sum in a sandbox is worth. -/
noncomputable def Tryd.pinned : Pinned := { name := "ytnjbpacnmiimlaadoor", sum := "40ec4364047e50664949c5c5b50f16e3c2dba0147b0cf042ee96d2ab95729b75", checked := Tryd.checked }
namespace Rows
def none {H : Type} : Left H := { results := [], args := [] }

/- WHAT THE LISTED PACKAGE-LEVEL VARIABLES READ AS WHEN THE CALL BEGINS. Each datum BY PROGRAM (the guide's laid-datum.mjs) off the statement by which the dump's own 'gosem.cut.vars' lays the variable. In a bare row this is a premise. The card (YtnjbpacnmiimlaaDoorCards.lean) ties it to the program's text. -/
def laid_math_bits_deBruijn32tab {H : Type} : DataW H := .agg [.lit (.int .u8 0), .lit (.int .u8 1), .lit (.int .u8 28), .lit (.int .u8 2), .lit (.int .u8 29), .lit (.int .u8 14), .lit (.int .u8 24), .lit (.int .u8 3), .lit (.int .u8 30), .lit (.int .u8 22), .lit (.int .u8 20), .lit (.int .u8 15), .lit (.int .u8 25), .lit (.int .u8 17), .lit (.int .u8 4), .lit (.int .u8 8), .lit (.int .u8 31), .lit (.int .u8 27), .lit (.int .u8 13), .lit (.int .u8 23), .lit (.int .u8 21), .lit (.int .u8 19), .lit (.int .u8 16), .lit (.int .u8 7), .lit (.int .u8 26), .lit (.int .u8 12), .lit (.int .u8 18), .lit (.int .u8 6), .lit (.int .u8 11), .lit (.int .u8 5), .lit (.int .u8 10), .lit (.int .u8 9)]
def laid_math_bits_deBruijn64tab {H : Type} : DataW H := .agg [.lit (.int .u8 0), .lit (.int .u8 1), .lit (.int .u8 56), .lit (.int .u8 2), .lit (.int .u8 57), .lit (.int .u8 49), .lit (.int .u8 28), .lit (.int .u8 3), .lit (.int .u8 61), .lit (.int .u8 58), .lit (.int .u8 42), .lit (.int .u8 50), .lit (.int .u8 38), .lit (.int .u8 29), .lit (.int .u8 17), .lit (.int .u8 4), .lit (.int .u8 62), .lit (.int .u8 47), .lit (.int .u8 59), .lit (.int .u8 36), .lit (.int .u8 45), .lit (.int .u8 43), .lit (.int .u8 51), .lit (.int .u8 22), .lit (.int .u8 53), .lit (.int .u8 39), .lit (.int .u8 33), .lit (.int .u8 30), .lit (.int .u8 24), .lit (.int .u8 18), .lit (.int .u8 12), .lit (.int .u8 5), .lit (.int .u8 63), .lit (.int .u8 55), .lit (.int .u8 48), .lit (.int .u8 27), .lit (.int .u8 60), .lit (.int .u8 41), .lit (.int .u8 37), .lit (.int .u8 16), .lit (.int .u8 46), .lit (.int .u8 35), .lit (.int .u8 44), .lit (.int .u8 21), .lit (.int .u8 52), .lit (.int .u8 32), .lit (.int .u8 23), .lit (.int .u8 11), .lit (.int .u8 54), .lit (.int .u8 26), .lit (.int .u8 40), .lit (.int .u8 15), .lit (.int .u8 34), .lit (.int .u8 20), .lit (.int .u8 31), .lit (.int .u8 10), .lit (.int .u8 25), .lit (.int .u8 14), .lit (.int .u8 19), .lit (.int .u8 9), .lit (.int .u8 13), .lit (.int .u8 8), .lit (.int .u8 7), .lit (.int .u8 6)]

/-- 'gleanerlaw05.GearCuts': WHATEVER THE INPUT: true; the input reads as it did. -/
def gearCutsSpec : ChangeSpec := { name := "gearCuts", fn := fun _ => fun
  | [d] => { results := [.lit (.bool true)], args := [d] }
  | _ => none }
def gearCutsRow : OpenClaim := { program := "ytnjbpacnmiimlaadoor", sum := "40ec4364047e50664949c5c5b50f16e3c2dba0147b0cf042ee96d2ab95729b75", func := "gleaner/gleanerlaw05.GearCuts", spec := "gearCuts", unfollowed := true, recurses := true, named := ["math/bits.deBruijn32tab", "math/bits.deBruijn64tab"], apart := false, laid := [("math/bits.deBruijn32tab", laid_math_bits_deBruijn32tab), ("math/bits.deBruijn64tab", laid_math_bits_deBruijn64tab)] }
def GearCutsSaid : Prop := gearCutsRow.holds Tryd.pinned (OpenSpec.ofChange gearCutsSpec)

/-- ITS FALSE NEIGHBOUR: 'it returns false'. Refute it at one input. -/
def gearCutsWrong : ChangeSpec := { name := "gearCuts", fn := fun _ => fun
  | [d] => { results := [.lit (.bool false)], args := [d] }
  | _ => none }
def GearCutsWrongFalsely : Prop := gearCutsRow.holds Tryd.pinned (OpenSpec.ofChange gearCutsWrong)

/-- 'gleanerlaw05.GearBack': WHATEVER THE INPUT: true; the input reads as it did. -/
def gearBackSpec : ChangeSpec := { name := "gearBack", fn := fun _ => fun
  | [d1, d2, d3] => { results := [.lit (.bool true)], args := [d1, d2, d3] }
  | _ => none }
def gearBackRow : OpenClaim := { program := "ytnjbpacnmiimlaadoor", sum := "40ec4364047e50664949c5c5b50f16e3c2dba0147b0cf042ee96d2ab95729b75", func := "gleaner/gleanerlaw05.GearBack", spec := "gearBack", unfollowed := true, recurses := true, named := ["math/bits.deBruijn32tab", "math/bits.deBruijn64tab"], apart := false, laid := [("math/bits.deBruijn32tab", laid_math_bits_deBruijn32tab), ("math/bits.deBruijn64tab", laid_math_bits_deBruijn64tab)] }
def GearBackSaid : Prop := gearBackRow.holds Tryd.pinned (OpenSpec.ofChange gearBackSpec)

/-- ITS FALSE NEIGHBOUR: 'it returns false'. Refute it at one input. -/
def gearBackWrong : ChangeSpec := { name := "gearBack", fn := fun _ => fun
  | [d1, d2, d3] => { results := [.lit (.bool false)], args := [d1, d2, d3] }
  | _ => none }
def GearBackWrongFalsely : Prop := gearBackRow.holds Tryd.pinned (OpenSpec.ofChange gearBackWrong)

/-- 'gleanerlaw05.GearPieces': WHATEVER THE INPUT: true; the input reads as it did. -/
def gearPiecesSpec : ChangeSpec := { name := "gearPieces", fn := fun _ => fun
  | [d1, d2] => { results := [.lit (.bool true)], args := [d1, d2] }
  | _ => none }
def gearPiecesRow : OpenClaim := { program := "ytnjbpacnmiimlaadoor", sum := "40ec4364047e50664949c5c5b50f16e3c2dba0147b0cf042ee96d2ab95729b75", func := "gleaner/gleanerlaw05.GearPieces", spec := "gearPieces", unfollowed := true, recurses := true, named := ["math/bits.deBruijn32tab", "math/bits.deBruijn64tab"], apart := false, laid := [("math/bits.deBruijn32tab", laid_math_bits_deBruijn32tab), ("math/bits.deBruijn64tab", laid_math_bits_deBruijn64tab)] }
def GearPiecesSaid : Prop := gearPiecesRow.holds Tryd.pinned (OpenSpec.ofChange gearPiecesSpec)

/-- ITS FALSE NEIGHBOUR: 'it returns false'. Refute it at one input. -/
def gearPiecesWrong : ChangeSpec := { name := "gearPieces", fn := fun _ => fun
  | [d1, d2] => { results := [.lit (.bool false)], args := [d1, d2] }
  | _ => none }
def GearPiecesWrongFalsely : Prop := gearPiecesRow.holds Tryd.pinned (OpenSpec.ofChange gearPiecesWrong)

/-- 'gleanerlaw05.GearWhole': WHATEVER THE INPUT: true; the input reads as it did. -/
def gearWholeSpec : ChangeSpec := { name := "gearWhole", fn := fun _ => fun
  | [d1, d2] => { results := [.lit (.bool true)], args := [d1, d2] }
  | _ => none }
def gearWholeRow : OpenClaim := { program := "ytnjbpacnmiimlaadoor", sum := "40ec4364047e50664949c5c5b50f16e3c2dba0147b0cf042ee96d2ab95729b75", func := "gleaner/gleanerlaw05.GearWhole", spec := "gearWhole", unfollowed := true, recurses := true, named := ["math/bits.deBruijn32tab", "math/bits.deBruijn64tab"], apart := false, laid := [("math/bits.deBruijn32tab", laid_math_bits_deBruijn32tab), ("math/bits.deBruijn64tab", laid_math_bits_deBruijn64tab)] }
def GearWholeSaid : Prop := gearWholeRow.holds Tryd.pinned (OpenSpec.ofChange gearWholeSpec)

/-- ITS FALSE NEIGHBOUR: 'it returns false'. Refute it at one input. -/
def gearWholeWrong : ChangeSpec := { name := "gearWhole", fn := fun _ => fun
  | [d1, d2] => { results := [.lit (.bool false)], args := [d1, d2] }
  | _ => none }
def GearWholeWrongFalsely : Prop := gearWholeRow.holds Tryd.pinned (OpenSpec.ofChange gearWholeWrong)

/-- 'gleanerlaw05.GearStreams': WHATEVER THE INPUT: true; the input reads as it did. -/
def gearStreamsSpec : ChangeSpec := { name := "gearStreams", fn := fun _ => fun
  | [d1, d2, d3] => { results := [.lit (.bool true)], args := [d1, d2, d3] }
  | _ => none }
def gearStreamsRow : OpenClaim := { program := "ytnjbpacnmiimlaadoor", sum := "40ec4364047e50664949c5c5b50f16e3c2dba0147b0cf042ee96d2ab95729b75", func := "gleaner/gleanerlaw05.GearStreams", spec := "gearStreams", unfollowed := true, recurses := true, named := ["math/bits.deBruijn32tab", "math/bits.deBruijn64tab"], apart := false, laid := [("math/bits.deBruijn32tab", laid_math_bits_deBruijn32tab), ("math/bits.deBruijn64tab", laid_math_bits_deBruijn64tab)] }
def GearStreamsSaid : Prop := gearStreamsRow.holds Tryd.pinned (OpenSpec.ofChange gearStreamsSpec)

/-- ITS FALSE NEIGHBOUR: 'it returns false'. Refute it at one input. -/
def gearStreamsWrong : ChangeSpec := { name := "gearStreams", fn := fun _ => fun
  | [d1, d2, d3] => { results := [.lit (.bool false)], args := [d1, d2, d3] }
  | _ => none }
def GearStreamsWrongFalsely : Prop := gearStreamsRow.holds Tryd.pinned (OpenSpec.ofChange gearStreamsWrong)

/- THE SECOND FORM. 'bulk': how many values and letters a reading holds, each counted each time it is reached (what is shared counts as often as it is met; a slice's spare places count too). A statement '..UptoSaid' is the law's where the arguments, and the package variables that the reading takes, are together of bulk at most 1048576: NARROWER than '..Said'. Prove '..Said' where nothing that the law and all that it calls make is longer than what came in: it says more and counts as full. Else prove '..UptoSaid'. A law counts once. -/
mutual
def uptoBulk {H : Type} : DataW H → Nat
  | .lit (.string bytes) => bytes.length + 1
  | .lit _ => 1
  | .nil => 1
  | .ptr d => uptoBulk d + 1
  | .slice elems spare => uptoBulkAll elems + uptoBulkAll spare + 1
  | .agg parts => uptoBulkAll parts + 1
  | .iface _ d => uptoBulk d + 1
  | .map entries => uptoBulkEntries entries + 1
  | .held _ => 1
def uptoBulkAll {H : Type} : List (DataW H) → Nat
  | [] => 0
  | d :: r => uptoBulk d + uptoBulkAll r
def uptoBulkEntries {H : Type} : List (Lit × DataW H) → Nat
  | [] => 0
  | x :: r => uptoBulkEntry x + uptoBulkEntries r
def uptoBulkEntry {H : Type} : Lit × DataW H → Nat
  | (.string bytes, d) => bytes.length + uptoBulk d + 1
  | (_, d) => uptoBulk d + 1
 end
def uptoSmall : (H : Type) → List (DataW H) → Bool := fun _ ds => decide (uptoBulkAll ds ≤ 1048576)
def OpenSpec.upto (s : _root_.Go.ChangeSpec) : _root_.Go.OpenSpec := { _root_.Go.OpenSpec.ofChange s with cond := some uptoSmall }

/-- 'gleanerlaw05.GearCuts', WHERE WHAT IT READS IS OF BULK AT MOST 1048576: true; the input reads as it did. -/
def gearCutsUptoRow : OpenClaim := { program := "ytnjbpacnmiimlaadoor", sum := "40ec4364047e50664949c5c5b50f16e3c2dba0147b0cf042ee96d2ab95729b75", func := "gleaner/gleanerlaw05.GearCuts", spec := "gearCuts", unfollowed := true, recurses := true, named := ["math/bits.deBruijn32tab", "math/bits.deBruijn64tab"], apart := false, laid := [("math/bits.deBruijn32tab", laid_math_bits_deBruijn32tab), ("math/bits.deBruijn64tab", laid_math_bits_deBruijn64tab)], narrowed := true }
def GearCutsUptoSaid : Prop := gearCutsUptoRow.holds Tryd.pinned (OpenSpec.upto gearCutsSpec)

/-- 'gleanerlaw05.GearBack', WHERE WHAT IT READS IS OF BULK AT MOST 1048576: true; the input reads as it did. -/
def gearBackUptoRow : OpenClaim := { program := "ytnjbpacnmiimlaadoor", sum := "40ec4364047e50664949c5c5b50f16e3c2dba0147b0cf042ee96d2ab95729b75", func := "gleaner/gleanerlaw05.GearBack", spec := "gearBack", unfollowed := true, recurses := true, named := ["math/bits.deBruijn32tab", "math/bits.deBruijn64tab"], apart := false, laid := [("math/bits.deBruijn32tab", laid_math_bits_deBruijn32tab), ("math/bits.deBruijn64tab", laid_math_bits_deBruijn64tab)], narrowed := true }
def GearBackUptoSaid : Prop := gearBackUptoRow.holds Tryd.pinned (OpenSpec.upto gearBackSpec)

/-- 'gleanerlaw05.GearPieces', WHERE WHAT IT READS IS OF BULK AT MOST 1048576: true; the input reads as it did. -/
def gearPiecesUptoRow : OpenClaim := { program := "ytnjbpacnmiimlaadoor", sum := "40ec4364047e50664949c5c5b50f16e3c2dba0147b0cf042ee96d2ab95729b75", func := "gleaner/gleanerlaw05.GearPieces", spec := "gearPieces", unfollowed := true, recurses := true, named := ["math/bits.deBruijn32tab", "math/bits.deBruijn64tab"], apart := false, laid := [("math/bits.deBruijn32tab", laid_math_bits_deBruijn32tab), ("math/bits.deBruijn64tab", laid_math_bits_deBruijn64tab)], narrowed := true }
def GearPiecesUptoSaid : Prop := gearPiecesUptoRow.holds Tryd.pinned (OpenSpec.upto gearPiecesSpec)

/-- 'gleanerlaw05.GearWhole', WHERE WHAT IT READS IS OF BULK AT MOST 1048576: true; the input reads as it did. -/
def gearWholeUptoRow : OpenClaim := { program := "ytnjbpacnmiimlaadoor", sum := "40ec4364047e50664949c5c5b50f16e3c2dba0147b0cf042ee96d2ab95729b75", func := "gleaner/gleanerlaw05.GearWhole", spec := "gearWhole", unfollowed := true, recurses := true, named := ["math/bits.deBruijn32tab", "math/bits.deBruijn64tab"], apart := false, laid := [("math/bits.deBruijn32tab", laid_math_bits_deBruijn32tab), ("math/bits.deBruijn64tab", laid_math_bits_deBruijn64tab)], narrowed := true }
def GearWholeUptoSaid : Prop := gearWholeUptoRow.holds Tryd.pinned (OpenSpec.upto gearWholeSpec)

/-- 'gleanerlaw05.GearStreams', WHERE WHAT IT READS IS OF BULK AT MOST 1048576: true; the input reads as it did. -/
def gearStreamsUptoRow : OpenClaim := { program := "ytnjbpacnmiimlaadoor", sum := "40ec4364047e50664949c5c5b50f16e3c2dba0147b0cf042ee96d2ab95729b75", func := "gleaner/gleanerlaw05.GearStreams", spec := "gearStreams", unfollowed := true, recurses := true, named := ["math/bits.deBruijn32tab", "math/bits.deBruijn64tab"], apart := false, laid := [("math/bits.deBruijn32tab", laid_math_bits_deBruijn32tab), ("math/bits.deBruijn64tab", laid_math_bits_deBruijn64tab)], narrowed := true }
def GearStreamsUptoSaid : Prop := gearStreamsUptoRow.holds Tryd.pinned (OpenSpec.upto gearStreamsSpec)

end Rows
end Go.Proofs.YtnjbpacnmiimlaaDoor
