/- GearPieces, GearStreams: apart's marks. -/
import Derived.Test.YtnjbpacnmiimlaaDoorGearM
import Derived.Test.YtnjbpacnmiimlaaDoorFxAf
namespace Go.Proofs.YtnjbpacnmiimlaaDoor
open Go.RowKit

/-- The mark of the n-th list. -/
def markF (n _k : Nat) : Nat := (n * 7 + 3) % 256
def markL (n m : Nat) : List Nat := (List.range m).map (markF n)
theorem markL_length (n m : Nat) : (markL n m).length = m := by simp [markL]
theorem markL_at (n m k : Nat) (h : k < m) : (markL n m)[k]? = some (markF n k) := by simp [markL, h]
theorem markL_succ (n m : Nat) : markL n m ++ [markF n m] = markL n (m + 1) := by simp [markL, List.range_succ]
theorem u8s_snoc (l : List Nat) (x : Nat) : u8s l ++ [.int .u8 (x : Int)] = u8s (l ++ [x]) := by simp [u8s]
theorem u8s_setR (l : List Nat) (k y : Nat) : (u8s l).set k (.int .u8 (y : Int)) = u8s (l.set k y) := by
  simp [u8s, List.map_set]
theorem Own.set_below {w : World} {B e size m c g : Nat} {xs : List Value} (h : Own w B e size (some ⟨g, 0, none⟩) m c xs) (hB : B ≤ w.heap.size) (j : Nat) (u : Value) : Below B w (w.setCell ⟨g, j, none⟩ u) :=
  grown_below (h.set_grown j u) hB (by intro k hk; cases hk; exact (h.lt g rfl).1)
/-- Rows of unlike elements lie in unlike blocks. -/
theorem Own.unlike {w : World} {B B2 e e2 size size2 n n2 c c2 : Nat} {A A2 : Option Addr} {xs ys : List Value} (h : Own w B e size A n c xs) (h2 : Own w B2 e2 size2 A2 n2 c2 ys) (he : e ≠ e2) : Dis A A2 := by
  intro k hk hk2
  rcases h.2 with ⟨hv, _⟩ | ⟨g, cap, cur, hv, _, hh, _⟩
  · injection hv with h1
    rw [h1] at hk
    cases hk
  · rcases h2.2 with ⟨hv2, _⟩ | ⟨g2, cap2, cur2, hv2, _, hh2, _⟩
    · injection hv2 with h1
      rw [h1] at hk2
      cases hk2
    · injection hv with h1
      injection hv2 with h3
      rw [h1] at hk
      rw [h3] at hk2
      have e1 : g = k := by injection hk
      have e2' : g2 = k := by injection hk2
      subst e1
      subst e2'
      rw [hh] at hh2
      injection hh2 with hh2
      injection hh2 with _ h4
      exact he h4

set_option maxRecDepth 20000 in
theorem mark_any (n k : Nat) (w : World) (hn : n ≤ 1125899906842624) :
    Calls Tryd.prog 35 #[.int .i64 n] w fun e w' => e = .returned (.int .u8 (markF n k : Nat)) ∧ w = w' := by
  obtain ⟨q, hq⟩ : ∃ q : Nat, (n * 7 + 3) % 256 = q := ⟨_, rfl⟩
  have hq1 : markF n k = q := hq
  rw [hq1]
  have hq2 : IntKind.u8.wrap ((n : Int) * 7 + 3) = (q : Int) := by rw [IntKind.wrap_u8]; omega
  clear hq1 hq
  go_enter Tryd.func35, Tryd.ntmps35
  go_wp2_with fail
  go_ret
  exact ⟨ret_int (by first | rfl | omega), rfl⟩
end Go.Proofs.YtnjbpacnmiimlaaDoor
