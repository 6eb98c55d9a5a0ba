/- What 'bulk at most' gives. -/
import Derived.Test.YtnjbpacnmiimlaaDoorRows
import Derived.Test.YtnjbpacnmiimlaaDoorArgs
namespace Go.Proofs.YtnjbpacnmiimlaaDoor
theorem bulk_one {H : Type} (d : DataW H) : 1 ≤ Rows.uptoBulk d := by
  cases d with
  | lit l => cases l <;> simp [Rows.uptoBulk]
  | nil => simp [Rows.uptoBulk]
  | ptr d => simp [Rows.uptoBulk]
  | slice elems spare => simp [Rows.uptoBulk]
  | agg parts => simp [Rows.uptoBulk]
  | iface t d => simp [Rows.uptoBulk]
  | map entries => simp [Rows.uptoBulk]
  | held h => simp [Rows.uptoBulk]
theorem bulk_len {H : Type} (l : List (DataW H)) : l.length ≤ Rows.uptoBulkAll l := by
  induction l with
  | nil => simp [Rows.uptoBulkAll]
  | cons x r ih => have := bulk_one x; simp only [Rows.uptoBulkAll, List.length_cons]; omega
theorem bulk_held {H : Type} {d : DataW H} {n : Nat} (h : Held d n) : n + 1 ≤ Rows.uptoBulk d := by
  rcases h with ⟨rfl, rfl⟩ | ⟨es, sp, rfl, rfl⟩
  · simp [Rows.uptoBulk]
  · have := bulk_len es
    simp only [Rows.uptoBulk]
    omega
end Go.Proofs.YtnjbpacnmiimlaaDoor
