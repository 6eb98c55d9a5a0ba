/- What the wire's texts lean on. -/
import Derived.Test.YtlghgfnkckaebaaOwn2
import Derived.Test.YtlghgfnkckaebaaGearN
import Derived.Test.YtlghgfnkckaebaaProg
import Derived.WalkLawsBesides
namespace Go.Proofs.Ytlghgfnkckaebaa
open Go.RowKit
set_option linter.unusedSimpArgs false

theorem elB : ElemOk Try.prog 39 5 (.int .u8 0) 1 1 := ⟨Try.underlying39, by kernel_rfl, rfl, by decide⟩
end Go.Proofs.Ytlghgfnkckaebaa
