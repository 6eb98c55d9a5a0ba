/-
  NARROWER THAN 'FOR EVERY INPUT', by the rows' own cells (each row's printed sentence says how): ObjectNamed: laid · ObjectUnlike: laid · ObjectChecks: laid · ObjectDecodes: laid · ObjectEncodes: laid · ObjectFresh: laid · ObjectBack: laid.
  DERIVED. THE GIVEN ROWS OF THIS SEAT. 7 by the template 'for every input the law returns true; each argument reads behind the call as it read before'; 0 by the template 'total and deterministic' (their statements: YtkjndgapejbgcaaDoorTotals.lean).
  GIVEN WITH THE SEED: the statements are not yours to turn. If you find one false, say at which input.
  Laid BY PROGRAM, IN A SANDBOX (cutbox-rows.mjs): the forced cells as the released guide's own fill.sh prints them over the translation 43e7e594f2035025… (all of the seat's roots in one cut). By AI agents, Wed Nov 11 2026. No macro, syntax, notation, axiom, sorry.
-/
import Derived.Test.YtkjndgapejbgcaaDoorChecked
import GoSem.PinnedTables
import GoSem.Claim
import GoSem.ClaimJoined
import GoSem.ClaimMapViews
import Derived.JoinedTies
import Derived.KernelRfl
namespace Go.Proofs.YtkjndgapejbgcaaDoor
/- THE CELL 'sum', in the pinned program and in every row, IS THE sha256 OF THE DUMP (.gsa) THAT YtkjndgapejbgcaaDoorProg.lean LOADS. Nothing in Lean hashes anything: it is a label: what it is worth is what the hold of that sum in a sandbox is worth. -/
noncomputable def Tryd.pinned : Pinned := { name := "ytkjndgapejbgcaadoor", sum := "43e7e594f203502597ac7a98c8ca90d8f4ccb4e84e26c37b99a9fdb5f774e647", checked := Tryd.checked }
namespace Rows
def none {H : Type} : Left H := { results := [], args := [] }

/- WHAT THE LISTED PACKAGE-LEVEL VARIABLES READ AS WHEN THE CALL BEGINS. Each datum BY PROGRAM (the guide's laid-datum.mjs) off the statement by which the dump's own 'gosem.cut.vars' lays the variable. In a bare row this is a premise. The card (YtkjndgapejbgcaaDoorCards.lean) ties it to the program's text. -/
def laid_unicode_utf8_acceptRanges {H : Type} : DataW H := .agg [.agg [.lit (.int .u8 128), .lit (.int .u8 191)], .agg [.lit (.int .u8 160), .lit (.int .u8 191)], .agg [.lit (.int .u8 128), .lit (.int .u8 159)], .agg [.lit (.int .u8 144), .lit (.int .u8 191)], .agg [.lit (.int .u8 128), .lit (.int .u8 143)], .agg [.lit (.int .u8 0), .lit (.int .u8 0)], .agg [.lit (.int .u8 0), .lit (.int .u8 0)], .agg [.lit (.int .u8 0), .lit (.int .u8 0)], .agg [.lit (.int .u8 0), .lit (.int .u8 0)], .agg [.lit (.int .u8 0), .lit (.int .u8 0)], .agg [.lit (.int .u8 0), .lit (.int .u8 0)], .agg [.lit (.int .u8 0), .lit (.int .u8 0)], .agg [.lit (.int .u8 0), .lit (.int .u8 0)], .agg [.lit (.int .u8 0), .lit (.int .u8 0)], .agg [.lit (.int .u8 0), .lit (.int .u8 0)], .agg [.lit (.int .u8 0), .lit (.int .u8 0)]]
/-- One of Go's own tables, pinned by name: the form's constant. -/
def laid_unicode_utf8_first : DataW Unit := Go.Pinned.utf8First
def laid_gleaner_gleanerref02_added {H : Type} : DataW H := .agg [.lit (.int .u64 1116352408), .lit (.int .u64 1899447441), .lit (.int .u64 3049323471), .lit (.int .u64 3921009573), .lit (.int .u64 961987163), .lit (.int .u64 1508970993), .lit (.int .u64 2453635748), .lit (.int .u64 2870763221), .lit (.int .u64 3624381080), .lit (.int .u64 310598401), .lit (.int .u64 607225278), .lit (.int .u64 1426881987), .lit (.int .u64 1925078388), .lit (.int .u64 2162078206), .lit (.int .u64 2614888103), .lit (.int .u64 3248222580), .lit (.int .u64 3835390401), .lit (.int .u64 4022224774), .lit (.int .u64 264347078), .lit (.int .u64 604807628), .lit (.int .u64 770255983), .lit (.int .u64 1249150122), .lit (.int .u64 1555081692), .lit (.int .u64 1996064986), .lit (.int .u64 2554220882), .lit (.int .u64 2821834349), .lit (.int .u64 2952996808), .lit (.int .u64 3210313671), .lit (.int .u64 3336571891), .lit (.int .u64 3584528711), .lit (.int .u64 113926993), .lit (.int .u64 338241895), .lit (.int .u64 666307205), .lit (.int .u64 773529912), .lit (.int .u64 1294757372), .lit (.int .u64 1396182291), .lit (.int .u64 1695183700), .lit (.int .u64 1986661051), .lit (.int .u64 2177026350), .lit (.int .u64 2456956037), .lit (.int .u64 2730485921), .lit (.int .u64 2820302411), .lit (.int .u64 3259730800), .lit (.int .u64 3345764771), .lit (.int .u64 3516065817), .lit (.int .u64 3600352804), .lit (.int .u64 4094571909), .lit (.int .u64 275423344), .lit (.int .u64 430227734), .lit (.int .u64 506948616), .lit (.int .u64 659060556), .lit (.int .u64 883997877), .lit (.int .u64 958139571), .lit (.int .u64 1322822218), .lit (.int .u64 1537002063), .lit (.int .u64 1747873779), .lit (.int .u64 1955562222), .lit (.int .u64 2024104815), .lit (.int .u64 2227730452), .lit (.int .u64 2361852424), .lit (.int .u64 2428436474), .lit (.int .u64 2756734187), .lit (.int .u64 3204031479), .lit (.int .u64 3329325298)]
def laid_gleaner_gleanerref02_begin {H : Type} : DataW H := .agg [.lit (.int .u64 1779033703), .lit (.int .u64 3144134277), .lit (.int .u64 1013904242), .lit (.int .u64 2773480762), .lit (.int .u64 1359893119), .lit (.int .u64 2600822924), .lit (.int .u64 528734635), .lit (.int .u64 1541459225)]
def laid_gleaner_sha_added {H : Type} : DataW H := .agg [.lit (.int .u32 1116352408), .lit (.int .u32 1899447441), .lit (.int .u32 3049323471), .lit (.int .u32 3921009573), .lit (.int .u32 961987163), .lit (.int .u32 1508970993), .lit (.int .u32 2453635748), .lit (.int .u32 2870763221), .lit (.int .u32 3624381080), .lit (.int .u32 310598401), .lit (.int .u32 607225278), .lit (.int .u32 1426881987), .lit (.int .u32 1925078388), .lit (.int .u32 2162078206), .lit (.int .u32 2614888103), .lit (.int .u32 3248222580), .lit (.int .u32 3835390401), .lit (.int .u32 4022224774), .lit (.int .u32 264347078), .lit (.int .u32 604807628), .lit (.int .u32 770255983), .lit (.int .u32 1249150122), .lit (.int .u32 1555081692), .lit (.int .u32 1996064986), .lit (.int .u32 2554220882), .lit (.int .u32 2821834349), .lit (.int .u32 2952996808), .lit (.int .u32 3210313671), .lit (.int .u32 3336571891), .lit (.int .u32 3584528711), .lit (.int .u32 113926993), .lit (.int .u32 338241895), .lit (.int .u32 666307205), .lit (.int .u32 773529912), .lit (.int .u32 1294757372), .lit (.int .u32 1396182291), .lit (.int .u32 1695183700), .lit (.int .u32 1986661051), .lit (.int .u32 2177026350), .lit (.int .u32 2456956037), .lit (.int .u32 2730485921), .lit (.int .u32 2820302411), .lit (.int .u32 3259730800), .lit (.int .u32 3345764771), .lit (.int .u32 3516065817), .lit (.int .u32 3600352804), .lit (.int .u32 4094571909), .lit (.int .u32 275423344), .lit (.int .u32 430227734), .lit (.int .u32 506948616), .lit (.int .u32 659060556), .lit (.int .u32 883997877), .lit (.int .u32 958139571), .lit (.int .u32 1322822218), .lit (.int .u32 1537002063), .lit (.int .u32 1747873779), .lit (.int .u32 1955562222), .lit (.int .u32 2024104815), .lit (.int .u32 2227730452), .lit (.int .u32 2361852424), .lit (.int .u32 2428436474), .lit (.int .u32 2756734187), .lit (.int .u32 3204031479), .lit (.int .u32 3329325298)]

/-- 'gleanerlaw04.ObjectNamed': WHATEVER THE INPUT: true; the input reads as it did. -/
def objectNamedSpec : ChangeSpec := { name := "objectNamed", fn := fun _ => fun
  | [d] => { results := [.lit (.bool true)], args := [d] }
  | _ => none }
def objectNamedRow : OpenClaim := { program := "ytkjndgapejbgcaadoor", sum := "43e7e594f203502597ac7a98c8ca90d8f4ccb4e84e26c37b99a9fdb5f774e647", func := "gleaner/gleanerlaw04.ObjectNamed", spec := "objectNamed", named := ["unicode/utf8.first", "unicode/utf8.acceptRanges"], apart := false, laid := [("unicode/utf8.acceptRanges", laid_unicode_utf8_acceptRanges), ("unicode/utf8.first", laid_unicode_utf8_first)] }
def ObjectNamedSaid : Prop := objectNamedRow.holds Tryd.pinned (OpenSpec.ofChange objectNamedSpec)

/-- ITS FALSE NEIGHBOUR: 'it returns false'. Refute it at one input. -/
def objectNamedWrong : ChangeSpec := { name := "objectNamed", fn := fun _ => fun
  | [d] => { results := [.lit (.bool false)], args := [d] }
  | _ => none }
def ObjectNamedWrongFalsely : Prop := objectNamedRow.holds Tryd.pinned (OpenSpec.ofChange objectNamedWrong)

/-- 'gleanerlaw04.ObjectUnlike': WHATEVER THE INPUT: true; the input reads as it did. -/
def objectUnlikeSpec : ChangeSpec := { name := "objectUnlike", fn := fun _ => fun
  | [d1, d2] => { results := [.lit (.bool true)], args := [d1, d2] }
  | _ => none }
def objectUnlikeRow : OpenClaim := { program := "ytkjndgapejbgcaadoor", sum := "43e7e594f203502597ac7a98c8ca90d8f4ccb4e84e26c37b99a9fdb5f774e647", func := "gleaner/gleanerlaw04.ObjectUnlike", spec := "objectUnlike", named := ["unicode/utf8.first", "unicode/utf8.acceptRanges"], apart := false, laid := [("unicode/utf8.acceptRanges", laid_unicode_utf8_acceptRanges), ("unicode/utf8.first", laid_unicode_utf8_first)] }
def ObjectUnlikeSaid : Prop := objectUnlikeRow.holds Tryd.pinned (OpenSpec.ofChange objectUnlikeSpec)

/-- ITS FALSE NEIGHBOUR: 'it returns false'. Refute it at one input. -/
def objectUnlikeWrong : ChangeSpec := { name := "objectUnlike", fn := fun _ => fun
  | [d1, d2] => { results := [.lit (.bool false)], args := [d1, d2] }
  | _ => none }
def ObjectUnlikeWrongFalsely : Prop := objectUnlikeRow.holds Tryd.pinned (OpenSpec.ofChange objectUnlikeWrong)

/-- 'gleanerlaw04.ObjectChecks': WHATEVER THE INPUT: true; the input reads as it did. -/
def objectChecksSpec : ChangeSpec := { name := "objectChecks", fn := fun _ => fun
  | [d] => { results := [.lit (.bool true)], args := [d] }
  | _ => none }
def objectChecksRow : OpenClaim := { program := "ytkjndgapejbgcaadoor", sum := "43e7e594f203502597ac7a98c8ca90d8f4ccb4e84e26c37b99a9fdb5f774e647", func := "gleaner/gleanerlaw04.ObjectChecks", spec := "objectChecks", named := ["unicode/utf8.first", "unicode/utf8.acceptRanges"], apart := false, laid := [("unicode/utf8.acceptRanges", laid_unicode_utf8_acceptRanges), ("unicode/utf8.first", laid_unicode_utf8_first)] }
def ObjectChecksSaid : Prop := objectChecksRow.holds Tryd.pinned (OpenSpec.ofChange objectChecksSpec)

/-- ITS FALSE NEIGHBOUR: 'it returns false'. Refute it at one input. -/
def objectChecksWrong : ChangeSpec := { name := "objectChecks", fn := fun _ => fun
  | [d] => { results := [.lit (.bool false)], args := [d] }
  | _ => none }
def ObjectChecksWrongFalsely : Prop := objectChecksRow.holds Tryd.pinned (OpenSpec.ofChange objectChecksWrong)

/-- 'gleanerlaw04.ObjectDecodes': WHATEVER THE INPUT: true; the input reads as it did. -/
def objectDecodesSpec : ChangeSpec := { name := "objectDecodes", fn := fun _ => fun
  | [d] => { results := [.lit (.bool true)], args := [d] }
  | _ => none }
def objectDecodesRow : OpenClaim := { program := "ytkjndgapejbgcaadoor", sum := "43e7e594f203502597ac7a98c8ca90d8f4ccb4e84e26c37b99a9fdb5f774e647", func := "gleaner/gleanerlaw04.ObjectDecodes", spec := "objectDecodes", unfollowed := true, recurses := true, named := ["unicode/utf8.first", "unicode/utf8.acceptRanges"], apart := false, laid := [("unicode/utf8.acceptRanges", laid_unicode_utf8_acceptRanges), ("unicode/utf8.first", laid_unicode_utf8_first)] }
def ObjectDecodesSaid : Prop := objectDecodesRow.holds Tryd.pinned (OpenSpec.ofChange objectDecodesSpec)

/-- ITS FALSE NEIGHBOUR: 'it returns false'. Refute it at one input. -/
def objectDecodesWrong : ChangeSpec := { name := "objectDecodes", fn := fun _ => fun
  | [d] => { results := [.lit (.bool false)], args := [d] }
  | _ => none }
def ObjectDecodesWrongFalsely : Prop := objectDecodesRow.holds Tryd.pinned (OpenSpec.ofChange objectDecodesWrong)

/-- 'gleanerlaw04.ObjectEncodes': WHATEVER THE INPUT: true; the input reads as it did. -/
def objectEncodesSpec : ChangeSpec := { name := "objectEncodes", fn := fun _ => fun
  | [d] => { results := [.lit (.bool true)], args := [d] }
  | _ => none }
def objectEncodesRow : OpenClaim := { program := "ytkjndgapejbgcaadoor", sum := "43e7e594f203502597ac7a98c8ca90d8f4ccb4e84e26c37b99a9fdb5f774e647", func := "gleaner/gleanerlaw04.ObjectEncodes", spec := "objectEncodes", named := ["unicode/utf8.first", "unicode/utf8.acceptRanges", "gleaner/sha.added", "gleaner/gleanerref02.begin", "gleaner/gleanerref02.added"], apart := false, laid := [("unicode/utf8.acceptRanges", laid_unicode_utf8_acceptRanges), ("gleaner/gleanerref02.added", laid_gleaner_gleanerref02_added), ("gleaner/gleanerref02.begin", laid_gleaner_gleanerref02_begin), ("gleaner/sha.added", laid_gleaner_sha_added), ("unicode/utf8.first", laid_unicode_utf8_first)] }
def ObjectEncodesSaid : Prop := objectEncodesRow.holds Tryd.pinned (OpenSpec.ofChange objectEncodesSpec)

/-- ITS FALSE NEIGHBOUR: 'it returns false'. Refute it at one input. -/
def objectEncodesWrong : ChangeSpec := { name := "objectEncodes", fn := fun _ => fun
  | [d] => { results := [.lit (.bool false)], args := [d] }
  | _ => none }
def ObjectEncodesWrongFalsely : Prop := objectEncodesRow.holds Tryd.pinned (OpenSpec.ofChange objectEncodesWrong)

/-- 'gleanerlaw04.ObjectFresh': WHATEVER THE INPUT: true; the input reads as it did. -/
def objectFreshSpec : ChangeSpec := { name := "objectFresh", fn := fun _ => fun
  | [d1, d2] => { results := [.lit (.bool true)], args := [d1, d2] }
  | _ => none }
def objectFreshRow : OpenClaim := { program := "ytkjndgapejbgcaadoor", sum := "43e7e594f203502597ac7a98c8ca90d8f4ccb4e84e26c37b99a9fdb5f774e647", func := "gleaner/gleanerlaw04.ObjectFresh", spec := "objectFresh", unfollowed := true, recurses := true, named := ["unicode/utf8.first", "unicode/utf8.acceptRanges"], apart := false, laid := [("unicode/utf8.acceptRanges", laid_unicode_utf8_acceptRanges), ("unicode/utf8.first", laid_unicode_utf8_first)] }
def ObjectFreshSaid : Prop := objectFreshRow.holds Tryd.pinned (OpenSpec.ofChange objectFreshSpec)

/-- ITS FALSE NEIGHBOUR: 'it returns false'. Refute it at one input. -/
def objectFreshWrong : ChangeSpec := { name := "objectFresh", fn := fun _ => fun
  | [d1, d2] => { results := [.lit (.bool false)], args := [d1, d2] }
  | _ => none }
def ObjectFreshWrongFalsely : Prop := objectFreshRow.holds Tryd.pinned (OpenSpec.ofChange objectFreshWrong)

/-- 'gleanerlaw04.ObjectBack': WHATEVER THE INPUT: true; the input reads as it did. -/
def objectBackSpec : ChangeSpec := { name := "objectBack", fn := fun _ => fun
  | [d1, d2] => { results := [.lit (.bool true)], args := [d1, d2] }
  | _ => none }
def objectBackRow : OpenClaim := { program := "ytkjndgapejbgcaadoor", sum := "43e7e594f203502597ac7a98c8ca90d8f4ccb4e84e26c37b99a9fdb5f774e647", func := "gleaner/gleanerlaw04.ObjectBack", spec := "objectBack", unfollowed := true, recurses := true, named := ["unicode/utf8.first", "unicode/utf8.acceptRanges", "gleaner/sha.added", "gleaner/gleanerref02.begin", "gleaner/gleanerref02.added"], apart := false, laid := [("unicode/utf8.acceptRanges", laid_unicode_utf8_acceptRanges), ("gleaner/gleanerref02.added", laid_gleaner_gleanerref02_added), ("gleaner/gleanerref02.begin", laid_gleaner_gleanerref02_begin), ("gleaner/sha.added", laid_gleaner_sha_added), ("unicode/utf8.first", laid_unicode_utf8_first)] }
def ObjectBackSaid : Prop := objectBackRow.holds Tryd.pinned (OpenSpec.ofChange objectBackSpec)

/-- ITS FALSE NEIGHBOUR: 'it returns false'. Refute it at one input. -/
def objectBackWrong : ChangeSpec := { name := "objectBack", fn := fun _ => fun
  | [d1, d2] => { results := [.lit (.bool false)], args := [d1, d2] }
  | _ => none }
def ObjectBackWrongFalsely : Prop := objectBackRow.holds Tryd.pinned (OpenSpec.ofChange objectBackWrong)

/- THE SECOND FORM. 'bulk': how many values and letters a reading holds, each counted each time it is reached (what is shared counts as often as it is met; a slice's spare places count too). A statement '..UptoSaid' is the law's where the arguments, and the package variables that the reading takes, are together of bulk at most 1048576: NARROWER than '..Said'. Prove '..Said' where nothing that the law and all that it calls make is longer than what came in: it says more and counts as full. Else prove '..UptoSaid'. A law counts once. -/
mutual
def uptoBulk {H : Type} : DataW H → Nat
  | .lit (.string bytes) => bytes.length + 1
  | .lit _ => 1
  | .nil => 1
  | .ptr d => uptoBulk d + 1
  | .slice elems spare => uptoBulkAll elems + uptoBulkAll spare + 1
  | .agg parts => uptoBulkAll parts + 1
  | .iface _ d => uptoBulk d + 1
  | .map entries => uptoBulkEntries entries + 1
  | .held _ => 1
def uptoBulkAll {H : Type} : List (DataW H) → Nat
  | [] => 0
  | d :: r => uptoBulk d + uptoBulkAll r
def uptoBulkEntries {H : Type} : List (Lit × DataW H) → Nat
  | [] => 0
  | x :: r => uptoBulkEntry x + uptoBulkEntries r
def uptoBulkEntry {H : Type} : Lit × DataW H → Nat
  | (.string bytes, d) => bytes.length + uptoBulk d + 1
  | (_, d) => uptoBulk d + 1
 end
def uptoSmall : (H : Type) → List (DataW H) → Bool := fun _ ds => decide (uptoBulkAll ds ≤ 1048576)
def OpenSpec.upto (s : _root_.Go.ChangeSpec) : _root_.Go.OpenSpec := { _root_.Go.OpenSpec.ofChange s with cond := some uptoSmall }

/-- 'gleanerlaw04.ObjectNamed', WHERE WHAT IT READS IS OF BULK AT MOST 1048576: true; the input reads as it did. -/
def objectNamedUptoRow : OpenClaim := { program := "ytkjndgapejbgcaadoor", sum := "43e7e594f203502597ac7a98c8ca90d8f4ccb4e84e26c37b99a9fdb5f774e647", func := "gleaner/gleanerlaw04.ObjectNamed", spec := "objectNamed", named := ["unicode/utf8.first", "unicode/utf8.acceptRanges"], apart := false, laid := [("unicode/utf8.acceptRanges", laid_unicode_utf8_acceptRanges), ("unicode/utf8.first", laid_unicode_utf8_first)], narrowed := true }
def ObjectNamedUptoSaid : Prop := objectNamedUptoRow.holds Tryd.pinned (OpenSpec.upto objectNamedSpec)

/-- 'gleanerlaw04.ObjectUnlike', WHERE WHAT IT READS IS OF BULK AT MOST 1048576: true; the input reads as it did. -/
def objectUnlikeUptoRow : OpenClaim := { program := "ytkjndgapejbgcaadoor", sum := "43e7e594f203502597ac7a98c8ca90d8f4ccb4e84e26c37b99a9fdb5f774e647", func := "gleaner/gleanerlaw04.ObjectUnlike", spec := "objectUnlike", named := ["unicode/utf8.first", "unicode/utf8.acceptRanges"], apart := false, laid := [("unicode/utf8.acceptRanges", laid_unicode_utf8_acceptRanges), ("unicode/utf8.first", laid_unicode_utf8_first)], narrowed := true }
def ObjectUnlikeUptoSaid : Prop := objectUnlikeUptoRow.holds Tryd.pinned (OpenSpec.upto objectUnlikeSpec)

/-- 'gleanerlaw04.ObjectChecks', WHERE WHAT IT READS IS OF BULK AT MOST 1048576: true; the input reads as it did. -/
def objectChecksUptoRow : OpenClaim := { program := "ytkjndgapejbgcaadoor", sum := "43e7e594f203502597ac7a98c8ca90d8f4ccb4e84e26c37b99a9fdb5f774e647", func := "gleaner/gleanerlaw04.ObjectChecks", spec := "objectChecks", named := ["unicode/utf8.first", "unicode/utf8.acceptRanges"], apart := false, laid := [("unicode/utf8.acceptRanges", laid_unicode_utf8_acceptRanges), ("unicode/utf8.first", laid_unicode_utf8_first)], narrowed := true }
def ObjectChecksUptoSaid : Prop := objectChecksUptoRow.holds Tryd.pinned (OpenSpec.upto objectChecksSpec)

/-- 'gleanerlaw04.ObjectDecodes', WHERE WHAT IT READS IS OF BULK AT MOST 1048576: true; the input reads as it did. -/
def objectDecodesUptoRow : OpenClaim := { program := "ytkjndgapejbgcaadoor", sum := "43e7e594f203502597ac7a98c8ca90d8f4ccb4e84e26c37b99a9fdb5f774e647", func := "gleaner/gleanerlaw04.ObjectDecodes", spec := "objectDecodes", unfollowed := true, recurses := true, named := ["unicode/utf8.first", "unicode/utf8.acceptRanges"], apart := false, laid := [("unicode/utf8.acceptRanges", laid_unicode_utf8_acceptRanges), ("unicode/utf8.first", laid_unicode_utf8_first)], narrowed := true }
def ObjectDecodesUptoSaid : Prop := objectDecodesUptoRow.holds Tryd.pinned (OpenSpec.upto objectDecodesSpec)

/-- 'gleanerlaw04.ObjectEncodes', WHERE WHAT IT READS IS OF BULK AT MOST 1048576: true; the input reads as it did. -/
def objectEncodesUptoRow : OpenClaim := { program := "ytkjndgapejbgcaadoor", sum := "43e7e594f203502597ac7a98c8ca90d8f4ccb4e84e26c37b99a9fdb5f774e647", func := "gleaner/gleanerlaw04.ObjectEncodes", spec := "objectEncodes", named := ["unicode/utf8.first", "unicode/utf8.acceptRanges", "gleaner/sha.added", "gleaner/gleanerref02.begin", "gleaner/gleanerref02.added"], apart := false, laid := [("unicode/utf8.acceptRanges", laid_unicode_utf8_acceptRanges), ("gleaner/gleanerref02.added", laid_gleaner_gleanerref02_added), ("gleaner/gleanerref02.begin", laid_gleaner_gleanerref02_begin), ("gleaner/sha.added", laid_gleaner_sha_added), ("unicode/utf8.first", laid_unicode_utf8_first)], narrowed := true }
def ObjectEncodesUptoSaid : Prop := objectEncodesUptoRow.holds Tryd.pinned (OpenSpec.upto objectEncodesSpec)

/-- 'gleanerlaw04.ObjectFresh', WHERE WHAT IT READS IS OF BULK AT MOST 1048576: true; the input reads as it did. -/
def objectFreshUptoRow : OpenClaim := { program := "ytkjndgapejbgcaadoor", sum := "43e7e594f203502597ac7a98c8ca90d8f4ccb4e84e26c37b99a9fdb5f774e647", func := "gleaner/gleanerlaw04.ObjectFresh", spec := "objectFresh", unfollowed := true, recurses := true, named := ["unicode/utf8.first", "unicode/utf8.acceptRanges"], apart := false, laid := [("unicode/utf8.acceptRanges", laid_unicode_utf8_acceptRanges), ("unicode/utf8.first", laid_unicode_utf8_first)], narrowed := true }
def ObjectFreshUptoSaid : Prop := objectFreshUptoRow.holds Tryd.pinned (OpenSpec.upto objectFreshSpec)

/-- 'gleanerlaw04.ObjectBack', WHERE WHAT IT READS IS OF BULK AT MOST 1048576: true; the input reads as it did. -/
def objectBackUptoRow : OpenClaim := { program := "ytkjndgapejbgcaadoor", sum := "43e7e594f203502597ac7a98c8ca90d8f4ccb4e84e26c37b99a9fdb5f774e647", func := "gleaner/gleanerlaw04.ObjectBack", spec := "objectBack", unfollowed := true, recurses := true, named := ["unicode/utf8.first", "unicode/utf8.acceptRanges", "gleaner/sha.added", "gleaner/gleanerref02.begin", "gleaner/gleanerref02.added"], apart := false, laid := [("unicode/utf8.acceptRanges", laid_unicode_utf8_acceptRanges), ("gleaner/gleanerref02.added", laid_gleaner_gleanerref02_added), ("gleaner/gleanerref02.begin", laid_gleaner_gleanerref02_begin), ("gleaner/sha.added", laid_gleaner_sha_added), ("unicode/utf8.first", laid_unicode_utf8_first)], narrowed := true }
def ObjectBackUptoSaid : Prop := objectBackUptoRow.holds Tryd.pinned (OpenSpec.upto objectBackSpec)

end Rows
end Go.Proofs.YtkjndgapejbgcaaDoor
