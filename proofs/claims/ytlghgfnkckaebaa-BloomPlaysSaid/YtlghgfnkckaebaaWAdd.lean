/- The closures of Add and Has. -/
import Derived.Test.YtlghgfnkckaebaaWByt
import Derived.Laws.BitsAllLaws
namespace Go.Proofs.Ytlghgfnkckaebaa
open Go.RowKit
set_option linter.unusedSimpArgs false
set_option linter.unusedVariables false

theorem set_other {w : World} {p q : Addr} {v u : Value} (h : w.cell? p = some v) (hne : p.block ≠ q.block) : (w.setCell q u).cell? p = some v := by
  unfold World.cell? at h ⊢
  rw [heap_setCell_other _ _ _ _ hne]
  exact h
theorem set_other_fz {w : World} {p q : Addr} {u : Value} {b : Bool} (h : w.frozen? p = b) (hne : p.block ≠ q.block) : (w.setCell q u).frozen? p = b := by
  unfold World.frozen? at h ⊢
  rw [heap_setCell_other _ _ _ _ hne]
  exact h
set_option maxRecDepth 20000 in
set_option maxHeartbeats 1000000 in
theorem addc_any (w : World) (a j fb x q : Nat) (fr : Bool) (hx : x < 18446744073709551616) (hq : q < 18446744073709551616) (hne : a ≠ fb)
    (cx : w.cell? ⟨a, j, none⟩ = some (.int .u64 (x : Int))) (fx : w.frozen? ⟨a, j, none⟩ = false) (cf : w.cell? ⟨fb, 0, none⟩ = some (.bool fr)) (ff : w.frozen? ⟨fb, 0, none⟩ = false) :
    Calls Try.prog 54 #[.pointer (some ⟨a, j, none⟩), .int .u64 (q : Int), .pointer (some ⟨fb, 0, none⟩)] w fun e w' => (∃ v, e = .returned v) ∧ w' = (w.setCell ⟨fb, 0, none⟩ (.bool (fr || decide (x &&& q = 0)))).setCell ⟨a, j, none⟩ (.int .u64 ((x ||| q : Nat) : Int)) := by
  have e1 := u64_and_nat x q hx hq
  have e2 := u64_or_nat x q hx hq
  obtain ⟨y, hy⟩ : ∃ y, x &&& q = y := ⟨_, rfl⟩
  obtain ⟨z, hz⟩ : ∃ z, x ||| q = z := ⟨_, rfl⟩
  rw [hy] at e1 ⊢
  rw [hz] at e2 ⊢
  clear hy hz hx hq
  cases fr with
  | true =>
    have c2 := set_other (u := .bool true) (q := ⟨fb, 0, none⟩) cx hne
    have f2 := set_other_fz (u := .bool true) (q := ⟨fb, 0, none⟩) fx hne
    obtain ⟨w1, hw1⟩ : ∃ w1, w.setCell ⟨fb, 0, none⟩ (.bool true) = w1 := ⟨_, rfl⟩
    rw [hw1] at c2 f2
    rw [Bool.true_or, hw1]
    go_enter Try.func54, Try.ntmps54
    go_wp2_with fail
    go_end0
    exact ⟨⟨_, rfl⟩, rfl⟩
  | false =>
    rw [Bool.false_or]
    have hd : ((y : Int) == 0) = decide (y = 0) := by
      by_cases h : y = 0
      · subst h; rfl
      · rw [decide_eq_false h]; simp; omega
    obtain ⟨d, hd2⟩ : ∃ d, decide (y = 0) = d := ⟨_, rfl⟩
    rw [hd2] at hd ⊢
    clear hd2
    have c2 := set_other (u := .bool d) (q := ⟨fb, 0, none⟩) cx hne
    have f2 := set_other_fz (u := .bool d) (q := ⟨fb, 0, none⟩) fx hne
    obtain ⟨w1, hw1⟩ : ∃ w1, w.setCell ⟨fb, 0, none⟩ (.bool d) = w1 := ⟨_, rfl⟩
    rw [hw1] at c2 f2
    rw [hw1]
    go_enter Try.func54, Try.ntmps54
    go_wp2_with fail
    go_end0
    exact ⟨⟨_, rfl⟩, rfl⟩
set_option maxRecDepth 20000 in
set_option maxHeartbeats 1000000 in
theorem hasc_any (w : World) (a j fb x q : Nat) (fr : Bool) (hx : x < 18446744073709551616) (hq : q < 18446744073709551616)
    (cx : w.cell? ⟨a, j, none⟩ = some (.int .u64 (x : Int))) (cf : w.cell? ⟨fb, 0, none⟩ = some (.bool fr)) (ff : w.frozen? ⟨fb, 0, none⟩ = false) :
    Calls Try.prog 59 #[.pointer (some ⟨a, j, none⟩), .int .u64 (q : Int), .pointer (some ⟨fb, 0, none⟩)] w fun e w' => (∃ v, e = .returned v) ∧ w' = w.setCell ⟨fb, 0, none⟩ (.bool (fr && !decide (x &&& q = 0))) := by
  have e1 := u64_and_nat x q hx hq
  obtain ⟨y, hy⟩ : ∃ y, x &&& q = y := ⟨_, rfl⟩
  rw [hy] at e1 ⊢
  clear hy hx hq
  cases fr with
  | false =>
    rw [Bool.false_and]
    go_enter Try.func59, Try.ntmps59
    go_wp2_with fail
    go_end0
    exact ⟨⟨_, rfl⟩, rfl⟩
  | true =>
    rw [Bool.true_and]
    have hd : ((y : Int) != 0) = !decide (y = 0) := by
      by_cases h : y = 0
      · subst h; rfl
      · rw [decide_eq_false h]; simp; omega
    obtain ⟨d, hd2⟩ : ∃ d, (!decide (y = 0)) = d := ⟨_, rfl⟩
    rw [hd2] at hd ⊢
    clear hd2
    go_enter Try.func59, Try.ntmps59
    go_wp2_with fail
    go_end0
    exact ⟨⟨_, rfl⟩, rfl⟩
end Go.Proofs.Ytlghgfnkckaebaa
