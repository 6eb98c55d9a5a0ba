/-
  No cell of these rows narrows 'for every input' (looked for: loops, veiled, ifaces, maps, wideKeys, modest, calm, conditions, laid).
  DERIVED. THE GIVEN ROWS OF THIS SEAT. 9 by the template 'for every input the law returns true; each argument reads behind the call as it read before'; 0 by the template 'total and deterministic' (their statements: YtlghgfnkckaebaaTotals.lean).
  GIVEN WITH THE SEED: the statements are not yours to turn. If you find one false, say at which input.
  Laid BY PROGRAM, IN A SANDBOX (cutbox-rows.mjs): the forced cells as the released guide's own fill.sh prints them over the translation 86bc653823932f5f… (all of the seat's roots in one cut). By AI agents, Wed Nov 11 2026. No macro, syntax, notation, axiom, sorry.
-/
import Derived.Test.YtlghgfnkckaebaaChecked
import GoSem.Claim
import GoSem.ClaimJoined
import GoSem.ClaimMapViews
import Derived.JoinedTies
import Derived.KernelRfl
namespace Go.Proofs.Ytlghgfnkckaebaa
/- THE CELL 'sum', in the pinned program and in every row, IS THE sha256 OF THE DUMP (.gsa) THAT YtlghgfnkckaebaaProg.lean LOADS. Nothing in Lean hashes anything: it is a label: what it is worth is what the hold of that sum in a sandbox is worth. -/
noncomputable def Try.pinned : Pinned := { name := "ytlghgfnkckaebaa", sum := "86bc653823932f5f62aeaaf542bf1c61c98af3504f02d4191304a359eca0ff47", checked := Try.checked }
namespace Rows
def none {H : Type} : Left H := { results := [], args := [] }

/-- 'gleanerlaw07.BloomNames': WHATEVER THE INPUT: true; the input reads as it did. -/
def bloomNamesSpec : ChangeSpec := { name := "bloomNames", fn := fun _ => fun
  | [] => { results := [.lit (.bool true)], args := [] }
  | _ => none }
def bloomNamesRow : OpenClaim := { program := "ytlghgfnkckaebaa", sum := "86bc653823932f5f62aeaaf542bf1c61c98af3504f02d4191304a359eca0ff47", func := "gleaner/gleanerlaw07.BloomNames", spec := "bloomNames", apart := false }
def BloomNamesSaid : Prop := bloomNamesRow.holds Try.pinned (OpenSpec.ofChange bloomNamesSpec)

/-- ITS FALSE NEIGHBOUR: 'it returns false'. Refute it at one input. -/
def bloomNamesWrong : ChangeSpec := { name := "bloomNames", fn := fun _ => fun
  | [] => { results := [.lit (.bool false)], args := [] }
  | _ => none }
def BloomNamesWrongFalsely : Prop := bloomNamesRow.holds Try.pinned (OpenSpec.ofChange bloomNamesWrong)

/-- 'gleanerlaw07.BloomBest': WHATEVER THE INPUT: true; the input reads as it did. -/
def bloomBestSpec : ChangeSpec := { name := "bloomBest", fn := fun _ => fun
  | [d1, d2] => { results := [.lit (.bool true)], args := [d1, d2] }
  | _ => none }
def bloomBestRow : OpenClaim := { program := "ytlghgfnkckaebaa", sum := "86bc653823932f5f62aeaaf542bf1c61c98af3504f02d4191304a359eca0ff47", func := "gleaner/gleanerlaw07.BloomBest", spec := "bloomBest", inPlace := ["math.Float64frombits"], apart := false }
def BloomBestSaid : Prop := bloomBestRow.holds Try.pinned (OpenSpec.ofChange bloomBestSpec)

/-- ITS FALSE NEIGHBOUR: 'it returns false'. Refute it at one input. -/
def bloomBestWrong : ChangeSpec := { name := "bloomBest", fn := fun _ => fun
  | [d1, d2] => { results := [.lit (.bool false)], args := [d1, d2] }
  | _ => none }
def BloomBestWrongFalsely : Prop := bloomBestRow.holds Try.pinned (OpenSpec.ofChange bloomBestWrong)

/-- 'gleanerlaw07.BloomRates': WHATEVER THE INPUT: true; the input reads as it did. -/
def bloomRatesSpec : ChangeSpec := { name := "bloomRates", fn := fun _ => fun
  | [d1, d2, d3] => { results := [.lit (.bool true)], args := [d1, d2, d3] }
  | _ => none }
def bloomRatesRow : OpenClaim := { program := "ytlghgfnkckaebaa", sum := "86bc653823932f5f62aeaaf542bf1c61c98af3504f02d4191304a359eca0ff47", func := "gleaner/gleanerlaw07.BloomRates", spec := "bloomRates", inPlace := ["math.Float64frombits"], apart := false }
def BloomRatesSaid : Prop := bloomRatesRow.holds Try.pinned (OpenSpec.ofChange bloomRatesSpec)

/-- ITS FALSE NEIGHBOUR: 'it returns false'. Refute it at one input. -/
def bloomRatesWrong : ChangeSpec := { name := "bloomRates", fn := fun _ => fun
  | [d1, d2, d3] => { results := [.lit (.bool false)], args := [d1, d2, d3] }
  | _ => none }
def BloomRatesWrongFalsely : Prop := bloomRatesRow.holds Try.pinned (OpenSpec.ofChange bloomRatesWrong)

/-- 'gleanerlaw07.BloomPlans': WHATEVER THE INPUT: true; the input reads as it did. -/
def bloomPlansSpec : ChangeSpec := { name := "bloomPlans", fn := fun _ => fun
  | [d1, d2] => { results := [.lit (.bool true)], args := [d1, d2] }
  | _ => none }
def bloomPlansRow : OpenClaim := { program := "ytlghgfnkckaebaa", sum := "86bc653823932f5f62aeaaf542bf1c61c98af3504f02d4191304a359eca0ff47", func := "gleaner/gleanerlaw07.BloomPlans", spec := "bloomPlans", inPlace := ["math.Float64frombits"], apart := false }
def BloomPlansSaid : Prop := bloomPlansRow.holds Try.pinned (OpenSpec.ofChange bloomPlansSpec)

/-- ITS FALSE NEIGHBOUR: 'it returns false'. Refute it at one input. -/
def bloomPlansWrong : ChangeSpec := { name := "bloomPlans", fn := fun _ => fun
  | [d1, d2] => { results := [.lit (.bool false)], args := [d1, d2] }
  | _ => none }
def BloomPlansWrongFalsely : Prop := bloomPlansRow.holds Try.pinned (OpenSpec.ofChange bloomPlansWrong)

/-- 'gleanerlaw07.BloomLeast': WHATEVER THE INPUT: true; the input reads as it did. -/
def bloomLeastSpec : ChangeSpec := { name := "bloomLeast", fn := fun _ => fun
  | [d1, d2] => { results := [.lit (.bool true)], args := [d1, d2] }
  | _ => none }
def bloomLeastRow : OpenClaim := { program := "ytlghgfnkckaebaa", sum := "86bc653823932f5f62aeaaf542bf1c61c98af3504f02d4191304a359eca0ff47", func := "gleaner/gleanerlaw07.BloomLeast", spec := "bloomLeast", inPlace := ["math.Float64frombits"], apart := false }
def BloomLeastSaid : Prop := bloomLeastRow.holds Try.pinned (OpenSpec.ofChange bloomLeastSpec)

/-- ITS FALSE NEIGHBOUR: 'it returns false'. Refute it at one input. -/
def bloomLeastWrong : ChangeSpec := { name := "bloomLeast", fn := fun _ => fun
  | [d1, d2] => { results := [.lit (.bool false)], args := [d1, d2] }
  | _ => none }
def BloomLeastWrongFalsely : Prop := bloomLeastRow.holds Try.pinned (OpenSpec.ofChange bloomLeastWrong)

/-- 'gleanerlaw07.BloomOpens': WHATEVER THE INPUT: true; the input reads as it did. -/
def bloomOpensSpec : ChangeSpec := { name := "bloomOpens", fn := fun _ => fun
  | [d] => { results := [.lit (.bool true)], args := [d] }
  | _ => none }
def bloomOpensRow : OpenClaim := { program := "ytlghgfnkckaebaa", sum := "86bc653823932f5f62aeaaf542bf1c61c98af3504f02d4191304a359eca0ff47", func := "gleaner/gleanerlaw07.BloomOpens", spec := "bloomOpens", apart := false }
def BloomOpensSaid : Prop := bloomOpensRow.holds Try.pinned (OpenSpec.ofChange bloomOpensSpec)

/-- ITS FALSE NEIGHBOUR: 'it returns false'. Refute it at one input. -/
def bloomOpensWrong : ChangeSpec := { name := "bloomOpens", fn := fun _ => fun
  | [d] => { results := [.lit (.bool false)], args := [d] }
  | _ => none }
def BloomOpensWrongFalsely : Prop := bloomOpensRow.holds Try.pinned (OpenSpec.ofChange bloomOpensWrong)

/-- 'gleanerlaw07.BloomFresh': WHATEVER THE INPUT: true; the input reads as it did. -/
def bloomFreshSpec : ChangeSpec := { name := "bloomFresh", fn := fun _ => fun
  | [d] => { results := [.lit (.bool true)], args := [d] }
  | _ => none }
def bloomFreshRow : OpenClaim := { program := "ytlghgfnkckaebaa", sum := "86bc653823932f5f62aeaaf542bf1c61c98af3504f02d4191304a359eca0ff47", func := "gleaner/gleanerlaw07.BloomFresh", spec := "bloomFresh", inPlace := ["math.Float64frombits"], unfollowed := true, recurses := true, apart := false }
def BloomFreshSaid : Prop := bloomFreshRow.holds Try.pinned (OpenSpec.ofChange bloomFreshSpec)

/-- ITS FALSE NEIGHBOUR: 'it returns false'. Refute it at one input. -/
def bloomFreshWrong : ChangeSpec := { name := "bloomFresh", fn := fun _ => fun
  | [d] => { results := [.lit (.bool false)], args := [d] }
  | _ => none }
def BloomFreshWrongFalsely : Prop := bloomFreshRow.holds Try.pinned (OpenSpec.ofChange bloomFreshWrong)

/-- 'gleanerlaw07.BloomNever': WHATEVER THE INPUT: true; the input reads as it did. -/
def bloomNeverSpec : ChangeSpec := { name := "bloomNever", fn := fun _ => fun
  | [d] => { results := [.lit (.bool true)], args := [d] }
  | _ => none }
def bloomNeverRow : OpenClaim := { program := "ytlghgfnkckaebaa", sum := "86bc653823932f5f62aeaaf542bf1c61c98af3504f02d4191304a359eca0ff47", func := "gleaner/gleanerlaw07.BloomNever", spec := "bloomNever", inPlace := ["math.Float64frombits"], unfollowed := true, recurses := true, apart := false }
def BloomNeverSaid : Prop := bloomNeverRow.holds Try.pinned (OpenSpec.ofChange bloomNeverSpec)

/-- ITS FALSE NEIGHBOUR: 'it returns false'. Refute it at one input. -/
def bloomNeverWrong : ChangeSpec := { name := "bloomNever", fn := fun _ => fun
  | [d] => { results := [.lit (.bool false)], args := [d] }
  | _ => none }
def BloomNeverWrongFalsely : Prop := bloomNeverRow.holds Try.pinned (OpenSpec.ofChange bloomNeverWrong)

/-- 'gleanerlaw07.BloomPlays': WHATEVER THE INPUT: true; the input reads as it did. -/
def bloomPlaysSpec : ChangeSpec := { name := "bloomPlays", fn := fun _ => fun
  | [d] => { results := [.lit (.bool true)], args := [d] }
  | _ => none }
def bloomPlaysRow : OpenClaim := { program := "ytlghgfnkckaebaa", sum := "86bc653823932f5f62aeaaf542bf1c61c98af3504f02d4191304a359eca0ff47", func := "gleaner/gleanerlaw07.BloomPlays", spec := "bloomPlays", inPlace := ["math.Float64frombits"], unfollowed := true, recurses := true, apart := false }
def BloomPlaysSaid : Prop := bloomPlaysRow.holds Try.pinned (OpenSpec.ofChange bloomPlaysSpec)

/-- ITS FALSE NEIGHBOUR: 'it returns false'. Refute it at one input. -/
def bloomPlaysWrong : ChangeSpec := { name := "bloomPlays", fn := fun _ => fun
  | [d] => { results := [.lit (.bool false)], args := [d] }
  | _ => none }
def BloomPlaysWrongFalsely : Prop := bloomPlaysRow.holds Try.pinned (OpenSpec.ofChange bloomPlaysWrong)

/- THE SECOND FORM. 'bulk': how many values and letters a reading holds, each counted each time it is reached (what is shared counts as often as it is met; a slice's spare places count too). A statement '..UptoSaid' is the law's where the arguments, and the package variables that the reading takes, are together of bulk at most 1048576: NARROWER than '..Said'. Prove '..Said' where nothing that the law and all that it calls make is longer than what came in: it says more and counts as full. Else prove '..UptoSaid'. A law counts once. -/
mutual
def uptoBulk {H : Type} : DataW H → Nat
  | .lit (.string bytes) => bytes.length + 1
  | .lit _ => 1
  | .nil => 1
  | .ptr d => uptoBulk d + 1
  | .slice elems spare => uptoBulkAll elems + uptoBulkAll spare + 1
  | .agg parts => uptoBulkAll parts + 1
  | .iface _ d => uptoBulk d + 1
  | .map entries => uptoBulkEntries entries + 1
  | .held _ => 1
def uptoBulkAll {H : Type} : List (DataW H) → Nat
  | [] => 0
  | d :: r => uptoBulk d + uptoBulkAll r
def uptoBulkEntries {H : Type} : List (Lit × DataW H) → Nat
  | [] => 0
  | x :: r => uptoBulkEntry x + uptoBulkEntries r
def uptoBulkEntry {H : Type} : Lit × DataW H → Nat
  | (.string bytes, d) => bytes.length + uptoBulk d + 1
  | (_, d) => uptoBulk d + 1
 end
def uptoSmall : (H : Type) → List (DataW H) → Bool := fun _ ds => decide (uptoBulkAll ds ≤ 1048576)
def OpenSpec.upto (s : _root_.Go.ChangeSpec) : _root_.Go.OpenSpec := { _root_.Go.OpenSpec.ofChange s with cond := some uptoSmall }

/-- 'gleanerlaw07.BloomNames', WHERE WHAT IT READS IS OF BULK AT MOST 1048576: true; the input reads as it did. -/
def bloomNamesUptoRow : OpenClaim := { program := "ytlghgfnkckaebaa", sum := "86bc653823932f5f62aeaaf542bf1c61c98af3504f02d4191304a359eca0ff47", func := "gleaner/gleanerlaw07.BloomNames", spec := "bloomNames", apart := false, narrowed := true }
def BloomNamesUptoSaid : Prop := bloomNamesUptoRow.holds Try.pinned (OpenSpec.upto bloomNamesSpec)

/-- 'gleanerlaw07.BloomBest', WHERE WHAT IT READS IS OF BULK AT MOST 1048576: true; the input reads as it did. -/
def bloomBestUptoRow : OpenClaim := { program := "ytlghgfnkckaebaa", sum := "86bc653823932f5f62aeaaf542bf1c61c98af3504f02d4191304a359eca0ff47", func := "gleaner/gleanerlaw07.BloomBest", spec := "bloomBest", inPlace := ["math.Float64frombits"], apart := false, narrowed := true }
def BloomBestUptoSaid : Prop := bloomBestUptoRow.holds Try.pinned (OpenSpec.upto bloomBestSpec)

/-- 'gleanerlaw07.BloomRates', WHERE WHAT IT READS IS OF BULK AT MOST 1048576: true; the input reads as it did. -/
def bloomRatesUptoRow : OpenClaim := { program := "ytlghgfnkckaebaa", sum := "86bc653823932f5f62aeaaf542bf1c61c98af3504f02d4191304a359eca0ff47", func := "gleaner/gleanerlaw07.BloomRates", spec := "bloomRates", inPlace := ["math.Float64frombits"], apart := false, narrowed := true }
def BloomRatesUptoSaid : Prop := bloomRatesUptoRow.holds Try.pinned (OpenSpec.upto bloomRatesSpec)

/-- 'gleanerlaw07.BloomPlans', WHERE WHAT IT READS IS OF BULK AT MOST 1048576: true; the input reads as it did. -/
def bloomPlansUptoRow : OpenClaim := { program := "ytlghgfnkckaebaa", sum := "86bc653823932f5f62aeaaf542bf1c61c98af3504f02d4191304a359eca0ff47", func := "gleaner/gleanerlaw07.BloomPlans", spec := "bloomPlans", inPlace := ["math.Float64frombits"], apart := false, narrowed := true }
def BloomPlansUptoSaid : Prop := bloomPlansUptoRow.holds Try.pinned (OpenSpec.upto bloomPlansSpec)

/-- 'gleanerlaw07.BloomLeast', WHERE WHAT IT READS IS OF BULK AT MOST 1048576: true; the input reads as it did. -/
def bloomLeastUptoRow : OpenClaim := { program := "ytlghgfnkckaebaa", sum := "86bc653823932f5f62aeaaf542bf1c61c98af3504f02d4191304a359eca0ff47", func := "gleaner/gleanerlaw07.BloomLeast", spec := "bloomLeast", inPlace := ["math.Float64frombits"], apart := false, narrowed := true }
def BloomLeastUptoSaid : Prop := bloomLeastUptoRow.holds Try.pinned (OpenSpec.upto bloomLeastSpec)

/-- 'gleanerlaw07.BloomOpens', WHERE WHAT IT READS IS OF BULK AT MOST 1048576: true; the input reads as it did. -/
def bloomOpensUptoRow : OpenClaim := { program := "ytlghgfnkckaebaa", sum := "86bc653823932f5f62aeaaf542bf1c61c98af3504f02d4191304a359eca0ff47", func := "gleaner/gleanerlaw07.BloomOpens", spec := "bloomOpens", apart := false, narrowed := true }
def BloomOpensUptoSaid : Prop := bloomOpensUptoRow.holds Try.pinned (OpenSpec.upto bloomOpensSpec)

/-- 'gleanerlaw07.BloomFresh', WHERE WHAT IT READS IS OF BULK AT MOST 1048576: true; the input reads as it did. -/
def bloomFreshUptoRow : OpenClaim := { program := "ytlghgfnkckaebaa", sum := "86bc653823932f5f62aeaaf542bf1c61c98af3504f02d4191304a359eca0ff47", func := "gleaner/gleanerlaw07.BloomFresh", spec := "bloomFresh", inPlace := ["math.Float64frombits"], unfollowed := true, recurses := true, apart := false, narrowed := true }
def BloomFreshUptoSaid : Prop := bloomFreshUptoRow.holds Try.pinned (OpenSpec.upto bloomFreshSpec)

/-- 'gleanerlaw07.BloomNever', WHERE WHAT IT READS IS OF BULK AT MOST 1048576: true; the input reads as it did. -/
def bloomNeverUptoRow : OpenClaim := { program := "ytlghgfnkckaebaa", sum := "86bc653823932f5f62aeaaf542bf1c61c98af3504f02d4191304a359eca0ff47", func := "gleaner/gleanerlaw07.BloomNever", spec := "bloomNever", inPlace := ["math.Float64frombits"], unfollowed := true, recurses := true, apart := false, narrowed := true }
def BloomNeverUptoSaid : Prop := bloomNeverUptoRow.holds Try.pinned (OpenSpec.upto bloomNeverSpec)

/-- 'gleanerlaw07.BloomPlays', WHERE WHAT IT READS IS OF BULK AT MOST 1048576: true; the input reads as it did. -/
def bloomPlaysUptoRow : OpenClaim := { program := "ytlghgfnkckaebaa", sum := "86bc653823932f5f62aeaaf542bf1c61c98af3504f02d4191304a359eca0ff47", func := "gleaner/gleanerlaw07.BloomPlays", spec := "bloomPlays", inPlace := ["math.Float64frombits"], unfollowed := true, recurses := true, apart := false, narrowed := true }
def BloomPlaysUptoSaid : Prop := bloomPlaysUptoRow.holds Try.pinned (OpenSpec.upto bloomPlaysSpec)

end Rows
end Go.Proofs.Ytlghgfnkckaebaa
