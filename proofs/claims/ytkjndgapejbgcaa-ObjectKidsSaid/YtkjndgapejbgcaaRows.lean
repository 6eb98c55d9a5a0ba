/-
  No cell of these rows narrows 'for every input' (looked for: loops, veiled, ifaces, maps, wideKeys, modest, calm, conditions, laid).
  DERIVED. THE GIVEN ROWS OF THIS SEAT. 3 by the template 'for every input the law returns true; each argument reads behind the call as it read before'; 0 by the template 'total and deterministic' (their statements: YtkjndgapejbgcaaTotals.lean).
  GIVEN WITH THE SEED: the statements are not yours to turn. If you find one false, say at which input.
  Laid BY PROGRAM, IN A SANDBOX (cutbox-rows.mjs): the forced cells as the released guide's own fill.sh prints them over the translation 1582e257a9e20951… (all of the seat's roots in one cut). By AI agents, Wed Nov 11 2026. No macro, syntax, notation, axiom, sorry.
-/
import Derived.Test.YtkjndgapejbgcaaChecked
import GoSem.Claim
import GoSem.ClaimJoined
import GoSem.ClaimMapViews
import Derived.JoinedTies
import Derived.KernelRfl
namespace Go.Proofs.Ytkjndgapejbgcaa
/- THE CELL 'sum', in the pinned program and in every row, IS THE sha256 OF THE DUMP (.gsa) THAT YtkjndgapejbgcaaProg.lean LOADS. Nothing in Lean hashes anything: it is a label: what it is worth is what the hold of that sum in a sandbox is worth. -/
noncomputable def Try.pinned : Pinned := { name := "ytkjndgapejbgcaa", sum := "1582e257a9e209513b45e69246950105dfd074fe2c27ed234adb96011a32c896", checked := Try.checked }
namespace Rows
def none {H : Type} : Left H := { results := [], args := [] }

/-- 'gleanerlaw04.ObjectNames': WHATEVER THE INPUT: true; the input reads as it did. -/
def objectNamesSpec : ChangeSpec := { name := "objectNames", fn := fun _ => fun
  | [] => { results := [.lit (.bool true)], args := [] }
  | _ => none }
def objectNamesRow : OpenClaim := { program := "ytkjndgapejbgcaa", sum := "1582e257a9e209513b45e69246950105dfd074fe2c27ed234adb96011a32c896", func := "gleaner/gleanerlaw04.ObjectNames", spec := "objectNames", apart := false }
def ObjectNamesSaid : Prop := objectNamesRow.holds Try.pinned (OpenSpec.ofChange objectNamesSpec)

/-- ITS FALSE NEIGHBOUR: 'it returns false'. Refute it at one input. -/
def objectNamesWrong : ChangeSpec := { name := "objectNames", fn := fun _ => fun
  | [] => { results := [.lit (.bool false)], args := [] }
  | _ => none }
def ObjectNamesWrongFalsely : Prop := objectNamesRow.holds Try.pinned (OpenSpec.ofChange objectNamesWrong)

/-- 'gleanerlaw04.ObjectSame': WHATEVER THE INPUT: true; the input reads as it did. -/
def objectSameSpec : ChangeSpec := { name := "objectSame", fn := fun _ => fun
  | [d1, d2] => { results := [.lit (.bool true)], args := [d1, d2] }
  | _ => none }
def objectSameRow : OpenClaim := { program := "ytkjndgapejbgcaa", sum := "1582e257a9e209513b45e69246950105dfd074fe2c27ed234adb96011a32c896", func := "gleaner/gleanerlaw04.ObjectSame", spec := "objectSame", apart := false }
def ObjectSameSaid : Prop := objectSameRow.holds Try.pinned (OpenSpec.ofChange objectSameSpec)

/-- ITS FALSE NEIGHBOUR: 'it returns false'. Refute it at one input. -/
def objectSameWrong : ChangeSpec := { name := "objectSame", fn := fun _ => fun
  | [d1, d2] => { results := [.lit (.bool false)], args := [d1, d2] }
  | _ => none }
def ObjectSameWrongFalsely : Prop := objectSameRow.holds Try.pinned (OpenSpec.ofChange objectSameWrong)

/-- 'gleanerlaw04.ObjectKids': WHATEVER THE INPUT: true; the input reads as it did. -/
def objectKidsSpec : ChangeSpec := { name := "objectKids", fn := fun _ => fun
  | [d] => { results := [.lit (.bool true)], args := [d] }
  | _ => none }
def objectKidsRow : OpenClaim := { program := "ytkjndgapejbgcaa", sum := "1582e257a9e209513b45e69246950105dfd074fe2c27ed234adb96011a32c896", func := "gleaner/gleanerlaw04.ObjectKids", spec := "objectKids", apart := false }
def ObjectKidsSaid : Prop := objectKidsRow.holds Try.pinned (OpenSpec.ofChange objectKidsSpec)

/-- ITS FALSE NEIGHBOUR: 'it returns false'. Refute it at one input. -/
def objectKidsWrong : ChangeSpec := { name := "objectKids", fn := fun _ => fun
  | [d] => { results := [.lit (.bool false)], args := [d] }
  | _ => none }
def ObjectKidsWrongFalsely : Prop := objectKidsRow.holds Try.pinned (OpenSpec.ofChange objectKidsWrong)

/- THE SECOND FORM. 'bulk': how many values and letters a reading holds, each counted each time it is reached (what is shared counts as often as it is met; a slice's spare places count too). A statement '..UptoSaid' is the law's where the arguments, and the package variables that the reading takes, are together of bulk at most 1048576: NARROWER than '..Said'. Prove '..Said' where nothing that the law and all that it calls make is longer than what came in: it says more and counts as full. Else prove '..UptoSaid'. A law counts once. -/
mutual
def uptoBulk {H : Type} : DataW H → Nat
  | .lit (.string bytes) => bytes.length + 1
  | .lit _ => 1
  | .nil => 1
  | .ptr d => uptoBulk d + 1
  | .slice elems spare => uptoBulkAll elems + uptoBulkAll spare + 1
  | .agg parts => uptoBulkAll parts + 1
  | .iface _ d => uptoBulk d + 1
  | .map entries => uptoBulkEntries entries + 1
  | .held _ => 1
def uptoBulkAll {H : Type} : List (DataW H) → Nat
  | [] => 0
  | d :: r => uptoBulk d + uptoBulkAll r
def uptoBulkEntries {H : Type} : List (Lit × DataW H) → Nat
  | [] => 0
  | x :: r => uptoBulkEntry x + uptoBulkEntries r
def uptoBulkEntry {H : Type} : Lit × DataW H → Nat
  | (.string bytes, d) => bytes.length + uptoBulk d + 1
  | (_, d) => uptoBulk d + 1
 end
def uptoSmall : (H : Type) → List (DataW H) → Bool := fun _ ds => decide (uptoBulkAll ds ≤ 1048576)
def OpenSpec.upto (s : _root_.Go.ChangeSpec) : _root_.Go.OpenSpec := { _root_.Go.OpenSpec.ofChange s with cond := some uptoSmall }

/-- 'gleanerlaw04.ObjectNames', WHERE WHAT IT READS IS OF BULK AT MOST 1048576: true; the input reads as it did. -/
def objectNamesUptoRow : OpenClaim := { program := "ytkjndgapejbgcaa", sum := "1582e257a9e209513b45e69246950105dfd074fe2c27ed234adb96011a32c896", func := "gleaner/gleanerlaw04.ObjectNames", spec := "objectNames", apart := false, narrowed := true }
def ObjectNamesUptoSaid : Prop := objectNamesUptoRow.holds Try.pinned (OpenSpec.upto objectNamesSpec)

/-- 'gleanerlaw04.ObjectSame', WHERE WHAT IT READS IS OF BULK AT MOST 1048576: true; the input reads as it did. -/
def objectSameUptoRow : OpenClaim := { program := "ytkjndgapejbgcaa", sum := "1582e257a9e209513b45e69246950105dfd074fe2c27ed234adb96011a32c896", func := "gleaner/gleanerlaw04.ObjectSame", spec := "objectSame", apart := false, narrowed := true }
def ObjectSameUptoSaid : Prop := objectSameUptoRow.holds Try.pinned (OpenSpec.upto objectSameSpec)

/-- 'gleanerlaw04.ObjectKids', WHERE WHAT IT READS IS OF BULK AT MOST 1048576: true; the input reads as it did. -/
def objectKidsUptoRow : OpenClaim := { program := "ytkjndgapejbgcaa", sum := "1582e257a9e209513b45e69246950105dfd074fe2c27ed234adb96011a32c896", func := "gleaner/gleanerlaw04.ObjectKids", spec := "objectKids", apart := false, narrowed := true }
def ObjectKidsUptoSaid : Prop := objectKidsUptoRow.holds Try.pinned (OpenSpec.upto objectKidsSpec)

end Rows
end Go.Proofs.Ytkjndgapejbgcaa
