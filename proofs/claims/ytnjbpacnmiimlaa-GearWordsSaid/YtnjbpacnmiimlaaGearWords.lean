/- GearWords: the law's walk. -/
import Derived.Test.YtnjbpacnmiimlaaWord
import Derived.Deep.WholeRow
import Derived.Deep.RegionHeld3
import Derived.Lib.SmallJoins
import Derived.ProofKit
import Derived.OpenShut
namespace Go.Proofs.Ytnjbpacnmiimlaa
open Go.RowKit

/-- Which power of two, 0: none of these. -/
def pwr (m : Int) : Nat := if m = 4 then 2 else if m = 8 then 3 else if m = 16 then 4 else if m = 32 then 5 else if m = 64 then 6 else if m = 128 then 7 else if m = 256 then 8 else if m = 512 then 9 else if m = 1024 then 10 else if m = 2048 then 11 else if m = 4096 then 12 else 0
theorem pwr_pos {m : Int} (h : pw m) : 2 ≤ pwr m ∧ pwr m ≤ 12 ∧ m = 2 ^ pwr m := by
  unfold pw at h
  rcases h with h | h | h | h | h | h | h | h | h | h | h <;> subst h <;> decide
theorem pwr_none {m : Int} (h : ¬ pw m) : pwr m = 0 := by
  unfold pw at h
  unfold pwr
  repeat (rw [if_neg (by omega)])
theorem pwr_at (k : Nat) (hk : k < 11) : pwr (4 * 2 ^ k) = k + 2 := by
  rcases (show k = 0 ∨ k = 1 ∨ k = 2 ∨ k = 3 ∨ k = 4 ∨ k = 5 ∨ k = 6 ∨ k = 7 ∨ k = 8 ∨ k = 9 ∨ k = 10 by omega) with h | h | h | h | h | h | h | h | h | h | h <;> subst h <;> decide
theorem pw_ne {m : Int} (h : ∀ j : Nat, j < 11 → m ≠ 4 * 2 ^ j) : ¬ pw m := by
  intro hp
  have := pwr_pos hp
  refine h (pwr m - 2) (by omega) ?_
  have h2 : pwr m = pwr m - 2 + 2 := by omega
  rw [h2, Int.pow_add] at this
  omega

set_option maxRecDepth 20000 in
theorem power_any (m : Int) (w : World) :
    Calls Try.prog 13 #[.int .i64 m] w fun e w' => e = .returned (.int .i64 (pwr m : Nat)) ∧ w = w' := by
  go_enter Try.func13, Try.ntmps13
  go_wp2_with fail
  go_loop [3, 4] (fun v i => ∃ k : Nat, ∃ u : Int, k ≤ 11 ∧ i = .int .i64 ((k : Int) + 2) ∧ v = .int .i64 u ∧ u = 4 * 2 ^ k ∧ Hid (∀ j : Nat, j < k → m ≠ 4 * 2 ^ j)) (fun _ i => 20 - (intOf i).toNat)
  case atStart => exact ⟨0, 4, by omega, rfl, rfl, by decide, Lib.hid (fun j hj => absurd hj (by omega))⟩
  case round =>
    obtain ⟨k, u, hk, rfl, rfl, hu, hne⟩ := hrel
    have hu2 : 4 ≤ u ∧ u ≤ 8192 := by
      rcases (show k = 0 ∨ k = 1 ∨ k = 2 ∨ k = 3 ∨ k = 4 ∨ k = 5 ∨ k = 6 ∨ k = 7 ∨ k = 8 ∨ k = 9 ∨ k = 10 ∨ k = 11 by omega) with h | h | h | h | h | h | h | h | h | h | h | h <;> subst h <;> subst hu <;> decide
    have hu' := Lib.hid hu
    clear hu
    obtain ⟨hu3, hu4⟩ := hu2
    by_cases hlt : k < 11
    · by_cases he : u = m
      · subst he
        go_wp2_with fail
        go_ret
        exact ⟨ret_int (by rw [hu'.out, pwr_at k hlt]; omega), rfl⟩
      · go_wp2_with fail
        go_round
        case rel =>
          refine ⟨k + 1, u * 2, by omega, by go_num, rfl, by rw [hu'.out, Int.pow_succ, Int.mul_assoc], Lib.hid (fun j hj => ?_)⟩
          rcases Nat.lt_succ_iff_lt_or_eq.1 hj with h | h
          · exact hne.out j h
          · subst h
            rw [← hu'.out]
            exact fun e => he e.symm
        case measure => simp [intOf]; omega
    · go_wp2_with fail
      go_ret
      exact ⟨ret_int (by rw [pwr_none (pw_ne (fun j hj => hne.out j (by omega)))]; rfl), rfl⟩

set_option maxRecDepth 20000 in
theorem refCheck_any (a m x : Int) (w : World) :
    Calls Try.prog 8 #[.agg #[.int .i64 a, .int .i64 m, .int .i64 x]] w fun e w' => e = .returned (.int .i64 (chk a m x)) ∧ Below w.heap.size w w' := by
  have hB : ∀ o, Below w.heap.size w (w.alloc o) := fun o => (Below.refl _ w).alloc (Nat.le_refl _) o
  have hB' := Lib.hid hB
  clear hB
  by_cases hm : pw m
  · have hp := pwr_pos hm
    have hm' := Lib.hid hm
    have e1 : ¬ ((pwr m : Nat) : Int) = 0 := by omega
    clear hm hp
    go_enter Try.func8, Try.ntmps8
    go_wp2_with (go_at_call 13; refine (power_any m _).mono ?_; rintro e w' ⟨rfl, rfl⟩)
    all_goals go_ret
    all_goals refine ⟨ret_int ?_, hB'.out _⟩
    all_goals first
      | exact (chk_no (fun h => by obtain ⟨h1, h2, h3, h4, _⟩ := h; omega)).symm
      | exact (chk_ok ⟨by omega, by omega, by omega, by omega, hm'.out⟩).symm
      | (simp only [beq_iff_eq] at *; exact (chk_no (fun h => by obtain ⟨h1, h2, h3, h4, _⟩ := h; omega)).symm)
  · have e1 := pwr_none hm
    rw [chk_no (fun h => hm h.2.2.2.2)]
    go_enter Try.func8, Try.ntmps8
    go_wp2_with (go_at_call 13; refine (power_any m _).mono ?_; rw [e1]; rintro e w' ⟨rfl, rfl⟩)
    go_ret
    exact ⟨rfl, hB'.out _⟩

theorem one_any (w : World) :
    Calls Try.prog 9 #[] w fun e w' => e = .returned (.agg #[.int .i64 2, .int .i64 4, .int .i64 8]) ∧ Below w.heap.size w w' := by
  have hB : ∀ o, Below w.heap.size w (w.alloc o) := fun o => (Below.refl _ w).alloc (Nat.le_refl _) o
  go_enter Try.func9, Try.ntmps9
  go_wp2
  (try simp only [Exit.inBlock, Exit.then])
  refine bodyPost_ret (results_cell_row rfl _ _ w.heap.size _ #[.int .i64 2, .int .i64 4, .int .i64 8] _ _ rfl (heap_alloc_new w _) Try.underlying23 rfl (by kernel_rfl)) rfl ?_
  exact ⟨rfl, hB _⟩

theorem keep_cell {w w' : World} {a : Addr} {v : Value} (hb : Below w.heap.size w w') (h : w.cell? a = some v) : w'.cell? a = some v := (hb.cell (World.block_lt_of_cell? _ _ h)).trans h
theorem un_drew {w w' : World} (h : Below w.drew.heap.size w.drew w') : Below w.heap.size w w' := ⟨h.os, h.tape, h.output, h.size, h.block⟩
theorem keep_below {w0 w w' : World} (h : Below w0.heap.size w0 w) (hb : Below w.heap.size w w') : Below w0.heap.size w0 w' := h.trans (hb.mono h.size)

theorem keep_S {w0 w w' : World} {a b c : Addr} {x y z : Value} (hb : Below w.heap.size w w') (h : Below w0.heap.size w0 w ∧ w.cell? a = some x ∧ w.cell? b = some y ∧ w.cell? c = some z) :
    Below w0.heap.size w0 w' ∧ w'.cell? a = some x ∧ w'.cell? b = some y ∧ w'.cell? c = some z := ⟨keep_below h.1 hb, keep_cell hb h.2.1, keep_cell hb h.2.2.1, keep_cell hb h.2.2.2⟩

set_option maxRecDepth 20000 in
set_option maxHeartbeats 4000000 in
theorem words_any (a m x : Int) (w : World) :
    Calls Try.prog 3 #[.agg #[.int .i64 a, .int .i64 m, .int .i64 x]] w fun e w' => e = .returned (.bool true) ∧ Below w.heap.size w w' := by
  have e0 : chk 0 0 0 = 50 := by decide
  have e1 : chk 2 4 8 = 0 := by decide
  have hB1 : Below w.heap.size w (w.alloc (.cells #[.int .i64 a, .int .i64 m, .int .i64 x] 23)) := (Below.refl _ w).alloc (Nat.le_refl _) _
  go_enter Try.func3, Try.ntmps3
  go_wp2_with fail
  go_loop [3] (fun i => ∃ k : Nat, k ≤ 256 ∧ i = .int .i64 k) (fun i => 256 - (intOf i).toNat)
  case atStart => exact ⟨0, by omega, rfl⟩
  case round =>
    obtain ⟨k, hk, rfl⟩ := hrel
    by_cases hlt : k < 256
    · go_wp2_with (first
        | (go_at_call 5; refine (word_any k _ hlt).mono ?_; rintro e w' ⟨rfl, rfl⟩)
        | (go_at_call 6; refine (refWord_any k _ hlt).mono ?_; rintro e w' ⟨rfl, rfl⟩))
      go_round
      case rel => exact ⟨k + 1, by omega, by go_num⟩
      case measure => simp [intOf]; omega
    · go_wp2_with fail
      have c0 : (w.alloc (.cells #[.int .i64 a, .int .i64 m, .int .i64 x] 23)).cell? ⟨w.heap.size, 0, none⟩ = some (.int .i64 a) := cell_of_row _ _ 0 _ _ _ (heap_alloc_new w _)
      have c1 : (w.alloc (.cells #[.int .i64 a, .int .i64 m, .int .i64 x] 23)).cell? ⟨w.heap.size, 1, none⟩ = some (.int .i64 m) := cell_of_row _ _ 1 _ _ _ (heap_alloc_new w _)
      have c2 : (w.alloc (.cells #[.int .i64 a, .int .i64 m, .int .i64 x] 23)).cell? ⟨w.heap.size, 2, none⟩ = some (.int .i64 x) := cell_of_row _ _ 2 _ _ _ (heap_alloc_new w _)
      generalize w.alloc (.cells #[.int .i64 a, .int .i64 m, .int .i64 x] 23) = w1 at c0 c1 c2 hB1 ⊢
      go_region_held3 (fun w' => Below w.heap.size w w' ∧ w'.cell? ⟨w.heap.size, 0, none⟩ = some (.int .i64 a) ∧ w'.cell? ⟨w.heap.size, 1, none⟩ = some (.int .i64 m) ∧ w'.cell? ⟨w.heap.size, 2, none⟩ = some (.int .i64 x))
        (first | exact ⟨below_drewN hB1 1, c0, c1, c2⟩ | exact keep_S hb ⟨hB1, c0, c1, c2⟩ | exact keep_S hb (by assumption))
        (first
          | (go_at_call 7; refine (check_any _ _ _ _).mono ?_; (try simp only [e0, e1]); rintro e w' ⟨rfl, hb⟩; (try replace hb := un_drew hb))
          | (go_at_call 8; refine (refCheck_any _ _ _ _).mono ?_; rintro e w' ⟨rfl, hb⟩; (try replace hb := un_drew hb))
          | (go_at_call 9; refine (one_any _).mono ?_; rintro e w' ⟨rfl, hb⟩; (try replace hb := un_drew hb)))
      rename_i hH
      have hF := hH.1
      clear hH
      go_wp2_with fail
      go_ret
      exact ⟨rfl, hF⟩

set_option maxRecDepth 100000 in
open Go.ChangeShapes Go.WideShapes in
theorem gearWords_calls {H : Type} {enc : TypeId × Value → H} (W : World) (base : Nat) (v0 : Value) (d0 : DataW H) (p0 : List MemPlace)
    (o0 : Value.okWide Try.prog W .any base 23 v0) (h0 : DataW.Trod enc Try.prog W 0 (fun _ => true) true 23 v0 d0 p0)
    (_hsz : (DataW.weightsEach Try.prog [23] [d0]).all (· ≤ reachBytes) = true) :
    Calls Try.prog 3 #[v0] W fun e W' => e = .returned (.bool true) ∧ Below W.heap.size W W' := by
  obtain ⟨c0, c1, c2, y0, y1, y2, n, rfl, _, _, k0, k1, k2⟩ := Go.Joins.open_agg3 Try.underlying23 (by kernel_rfl) (by kernel_rfl) o0 h0
  obtain ⟨a, ha, _, _⟩ := DataW.trod_int Try.underlying3 k0
  obtain ⟨m, hm, _, _⟩ := DataW.trod_int Try.underlying3 k1
  obtain ⟨x, hx, _, _⟩ := DataW.trod_int Try.underlying3 k2
  simp only [List.cons.injEq, and_true] at ha hm hx
  subst ha hm hx
  exact words_any a m x W
end Go.Proofs.Ytnjbpacnmiimlaa
