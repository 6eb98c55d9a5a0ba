/- More of what 'bulk at most' gives. -/
import Derived.Test.YtnjbpacnmiimlaaDoorBulk
import Derived.Test.YtnjbpacnmiimlaaDoorArgs2
namespace Go.Proofs.YtnjbpacnmiimlaaDoor
theorem bulk_mem {H : Type} {l : List (DataW H)} {i : Nat} (h : i < l.length) : Rows.uptoBulk (l[i]?.getD .nil) ≤ Rows.uptoBulkAll l := by
  induction l generalizing i with
  | nil => simp at h
  | cons x r ih =>
    cases i with
    | zero => simp [Rows.uptoBulkAll]
    | succ i =>
      have := ih (i := i) (by simpa using h)
      simp only [List.getElem?_cons_succ, Rows.uptoBulkAll]
      omega
theorem bulk_elems {H : Type} {d : DataW H} {Ds : List (DataW H)} (h : Elems d Ds) : Rows.uptoBulkAll Ds + 1 ≤ Rows.uptoBulk d := by
  rcases h with ⟨rfl, rfl⟩ | ⟨sp, rfl⟩
  · simp [Rows.uptoBulk, Rows.uptoBulkAll]
  · simp only [Rows.uptoBulk]
    omega
end Go.Proofs.YtnjbpacnmiimlaaDoor
