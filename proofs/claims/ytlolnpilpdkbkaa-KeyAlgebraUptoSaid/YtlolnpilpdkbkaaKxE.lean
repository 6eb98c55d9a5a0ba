/- Len of a set of keys. -/
import Derived.Test.YtlolnpilpdkbkaaKxS
namespace Go.Proofs.Ytlolnpilpdkbkaa
open Go.RowKit Go.Maps
set_option linter.unusedSimpArgs false
set_option linter.unusedVariables false
set_option maxRecDepth 100000 in
set_option maxHeartbeats 1000000 in
theorem setLen_any (w : World) (s m n : Nat) (D : DataW Unit) (h : SetAt w s m n D) :
    Calls Try.prog 14 #[.pointer (some ⟨s, 0, none⟩)] w fun e w' => e = .returned (.int .i64 (Maps.size D)) ∧ w' = w := by
  have c := Lib.hid h.1
  have hT := Lib.hid (there_any w s m n D h)
  have c1 : w.cell? ⟨s, 0, none⟩ = some (.map (some m)) := by unfold World.cell?; simp [c.out]
  have hl := h.2.len mapK
  clear h
  go_enter Try.func14, Try.ntmps14
  go_wp2_with (first
    | (go_at_call 36; refine hT.out.mono ?_; rintro e w5 ⟨rfl, rfl⟩))
  go_ret
  exact ⟨rfl, rfl⟩
end Go.Proofs.Ytlolnpilpdkbkaa
