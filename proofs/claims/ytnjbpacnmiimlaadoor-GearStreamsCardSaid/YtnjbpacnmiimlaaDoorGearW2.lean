/- gear: which power of two, Check of the document, the one way of cutting; the elements of slices. -/
import Derived.Test.YtnjbpacnmiimlaaDoorGearP
import Derived.Test.YtnjbpacnmiimlaaDoorOwn2
import Derived.Deep.WholeRow
import Derived.Deep.RegionHeld3
import Derived.Lib.SmallJoins
import Derived.ProofKit
import Derived.OpenShut
namespace Go.Proofs.YtnjbpacnmiimlaaDoor
open Go.RowKit

theorem elB : ElemOk Tryd.prog 24 5 (.int .u8 0) 1 1 := ⟨Tryd.underlying24, by kernel_rfl, rfl, by decide⟩
theorem elI : ElemOk Tryd.prog 29 3 (.int .i64 0) 1 8 := ⟨Tryd.underlying29, by kernel_rfl, rfl, by decide⟩

/-- A row of lengths. -/
def i64s (l : List Nat) : List Value := l.map fun b : Nat => .int .i64 (b : Int)
theorem i64s_length (l : List Nat) : (i64s l).length = l.length := by simp [i64s]
theorem i64s_append (l m : List Nat) : i64s (l ++ m) = i64s l ++ i64s m := by simp [i64s]
theorem i64s_get (l : List Nat) (j : Nat) (h : j < l.length) : (i64s l)[j]? = some (.int .i64 ((l[j]?.getD 0 : Nat) : Int)) := by simp [i64s, h]
theorem i64s_one {l : List Nat} : ∀ u ∈ i64s l, u.oneCell' = true := by
  intro u hu
  obtain ⟨_, _, rfl⟩ := List.mem_map.1 hu
  rfl
abbrev Nts (w : World) (B : Nat) (A : Option Addr) (l : List Nat) : Prop := Rd w B A l.length (fun j => .int .i64 ((l[j]?.getD 0 : Nat) : Int))
theorem Own.nts {w : World} {B : Nat} {e : TypeId} {n c : Nat} {A : Option Addr} {l : List Nat} (h : Own w B e 1 A n c (i64s l)) : Nts w w.heap.size A l := by
  have hl : l.length = n := by have := h.len; rw [i64s_length] at this; omega
  have := h.rd
  rw [Nat.mul_one, ← hl] at this
  exact this.congr fun j hj => by rw [i64s_get l j hj]; rfl
theorem Byt.cut {w : World} {B : Nat} {A : Option Addr} {l : List Nat} (h : Byt w B A l) {k cap : Nat} (hk : k ≤ l.length) (hc : l.length ≤ cap) : Byt w B (if cap = k then A else A.map (·.add k)) (l.drop k) := by
  have := Rd.cut h hk hc
  unfold Byt
  rw [List.length_drop]
  exact this.congr fun j _ => by rw [List.getElem?_drop]

set_option maxRecDepth 20000 in
theorem power_any (m : Int) (w : World) :
    Calls Tryd.prog 37 #[.int .i64 m] w fun e w' => e = .returned (.int .i64 (pwr m : Nat)) ∧ w = w' := by
  go_enter Tryd.func37, Tryd.ntmps37
  go_wp2_with fail
  go_loop [3, 4] (fun v i => ∃ k : Nat, ∃ u : Int, k ≤ 11 ∧ i = .int .i64 ((k : Int) + 2) ∧ v = .int .i64 u ∧ u = 4 * 2 ^ k ∧ Hid (∀ j : Nat, j < k → m ≠ 4 * 2 ^ j)) (fun _ i => 20 - (intOf i).toNat)
  case atStart => exact ⟨0, 4, by omega, rfl, rfl, by decide, Lib.hid (fun j hj => absurd hj (by omega))⟩
  case round =>
    obtain ⟨k, u, hk, rfl, rfl, hu, hne⟩ := hrel
    have hu2 : 4 ≤ u ∧ u ≤ 8192 := by
      rcases (show k = 0 ∨ k = 1 ∨ k = 2 ∨ k = 3 ∨ k = 4 ∨ k = 5 ∨ k = 6 ∨ k = 7 ∨ k = 8 ∨ k = 9 ∨ k = 10 ∨ k = 11 by omega) with h | h | h | h | h | h | h | h | h | h | h | h <;> subst h <;> subst hu <;> decide
    have hu' := Lib.hid hu
    clear hu
    obtain ⟨hu3, hu4⟩ := hu2
    by_cases hlt : k < 11
    · by_cases he : u = m
      · subst he
        go_wp2_with fail
        go_ret
        exact ⟨ret_int (by rw [hu'.out, pwr_at k hlt]; omega), rfl⟩
      · go_wp2_with fail
        go_round
        case rel =>
          refine ⟨k + 1, u * 2, by omega, by go_num, rfl, by rw [hu'.out, Int.pow_succ, Int.mul_assoc], Lib.hid (fun j hj => ?_)⟩
          rcases Nat.lt_succ_iff_lt_or_eq.1 hj with h | h
          · exact hne.out j h
          · subst h
            rw [← hu'.out]
            exact fun e => he e.symm
        case measure => simp [intOf]; omega
    · go_wp2_with fail
      go_ret
      exact ⟨ret_int (by rw [pwr_none (pw_ne (fun j hj => hne.out j (by omega)))]; rfl), rfl⟩

set_option maxRecDepth 20000 in
theorem refCheck_any (a m x : Int) (w : World) :
    Calls Tryd.prog 26 #[.agg #[.int .i64 a, .int .i64 m, .int .i64 x]] w fun e w' => e = .returned (.int .i64 (chk a m x)) ∧ Below w.heap.size w w' := by
  have hB : ∀ o, Below w.heap.size w (w.alloc o) := fun o => (Below.refl _ w).alloc (Nat.le_refl _) o
  have hB' := Lib.hid hB
  clear hB
  by_cases hm : pw m
  · have hp := pwr_pos hm
    have hm' := Lib.hid hm
    have e1 : ¬ ((pwr m : Nat) : Int) = 0 := by omega
    clear hm hp
    go_enter Tryd.func26, Tryd.ntmps26
    go_wp2_with (go_at_call 37; refine (power_any m _).mono ?_; rintro e w' ⟨rfl, rfl⟩)
    all_goals go_ret
    all_goals refine ⟨ret_int ?_, hB'.out _⟩
    all_goals first
      | exact (chk_no (fun h => by obtain ⟨h1, h2, h3, h4, _⟩ := h; omega)).symm
      | exact (chk_ok ⟨by omega, by omega, by omega, by omega, hm'.out⟩).symm
      | (simp only [beq_iff_eq] at *; exact (chk_no (fun h => by obtain ⟨h1, h2, h3, h4, _⟩ := h; omega)).symm)
  · have e1 := pwr_none hm
    rw [chk_no (fun h => hm h.2.2.2.2)]
    go_enter Tryd.func26, Tryd.ntmps26
    go_wp2_with (go_at_call 37; refine (power_any m _).mono ?_; rw [e1]; rintro e w' ⟨rfl, rfl⟩)
    go_ret
    exact ⟨rfl, hB'.out _⟩

theorem one_any (w : World) :
    Calls Tryd.prog 32 #[] w fun e w' => e = .returned (.agg #[.int .i64 2, .int .i64 4, .int .i64 8]) ∧ Below w.heap.size w w' := by
  have hB : ∀ o, Below w.heap.size w (w.alloc o) := fun o => (Below.refl _ w).alloc (Nat.le_refl _) o
  go_enter Tryd.func32, Tryd.ntmps32
  go_wp2
  (try simp only [Exit.inBlock, Exit.then])
  refine bodyPost_ret (results_cell_row rfl _ _ w.heap.size _ #[.int .i64 2, .int .i64 4, .int .i64 8] _ _ rfl (heap_alloc_new w _) Tryd.underlying23 rfl (by kernel_rfl)) rfl ?_
  exact ⟨rfl, hB _⟩

end Go.Proofs.YtnjbpacnmiimlaaDoor
