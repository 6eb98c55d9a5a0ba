/- strings.HasPrefix, laid by the shelf. -/
import Derived.Shelf.Strings.Prefix
import Derived.Test.YtlolnpilpdkbkaaProg
namespace Go.Proofs.Ytlolnpilpdkbkaa
open Go.RowKit
def ren99 : Go.Shelf.Ren := ⟨fun | 99 => 37 | 206 => 57 | n => n, fun | 3 => 3 | 4 => 4 | 9 => 9 | n => n, fun  n => n⟩
theorem lays99 : Go.Proofs.Lays.n99 Try.prog ren99 := {
  mixed := by kernel_rfl
  f99 := Try.func37.trans (congrArg some (by kernel_rfl))
  f206 := Try.func57.trans (congrArg some (by kernel_rfl))
  t3 := Try.underlying3
  a3 := Try.isAgg3
  z3 := Try.sizeOf3
  v3 := Try.zeroValue3
  t4 := Try.underlying4
  a4 := Try.isAgg4
  z4 := Try.sizeOf4
  v4 := Try.zeroValue4
  t9 := Try.underlying9
  a9 := Try.isAgg9
  z9 := Try.sizeOf9
  v9 := Try.zeroValue9
  }
theorem pfx_any (s p : ByteArray) (w : World) :
    Calls Try.prog 37 #[.string s, .string p] w fun e w' => e = .returned (.bool (Lib.hasPrefix s.data.toList p.data.toList)) ∧ w' = w :=
  Any.strings_HasPrefix lays99 s p w
end Go.Proofs.Ytlolnpilpdkbkaa
