/- RootsNamed: names of roots, both sides. -/
import Derived.Test.YtakcnkmlglkkpaaProg
import Derived.Test.YtakcnkmlglkkpaaBase
import Derived.ChangeMaps5
import Derived.ProofKit
import Derived.OpenShut
namespace Go.Proofs.Ytakcnkmlglkkpaa
open Go.RowKit
set_option linter.unusedSimpArgs false

/-- A letter of a name. -/
def okC (c : Nat) : Prop := (97 ≤ c ∧ c ≤ 122) ∨ (48 ≤ c ∧ c ≤ 57) ∨ c = 45 ∨ c = 95 ∨ c = 46 ∨ c = 47
def chOf (s : ByteArray) (k : Nat) : Nat := if h : k < s.size then s[k].toNat else 0
def Name (s : ByteArray) : Prop := 1 ≤ s.size ∧ s.size ≤ 32 ∧ ∀ k, k < s.size → okC (chOf s k)
theorem chOf_at {s : ByteArray} {k : Nat} (h : k < s.size) : s[k].toNat = chOf s k := by rw [chOf, dif_pos h]
theorem chOf_lt (s : ByteArray) (k : Nat) : chOf s k < 256 := by
  unfold chOf
  split
  · exact UInt8.toNat_lt _
  · decide
theorem str_empty {s : ByteArray} (h : s.size = 0) : s.toList = [] := by
  rw [ByteArray.toList_eq]
  exact List.eq_nil_of_length_eq_zero (by simpa using h)
theorem str_some {s : ByteArray} (h : ¬ s.size = 0) : s.toList.isEmpty = false ∧ ¬ s.toList = [] := by
  have h1 : ¬ s.toList = [] := fun e => h (by
    rw [ByteArray.toList_eq] at e
    have := congrArg List.length e
    simpa using this)
  exact ⟨by simp [h1], h1⟩

set_option maxRecDepth 20000 in
set_option maxHeartbeats 1000000 in
theorem isName_any (s : ByteArray) (w : World) :
    Calls Try.prog 10 #[.string s] w fun e w' => (e = .returned (.bool true) ∧ Name s ∨ e = .returned (.bool false) ∧ ¬ Name s) ∧ w = w' := by
  by_cases h0 : s.size = 0
  · have e0 := str_empty h0
    go_enter Try.func10, Try.ntmps10
    go_wp2_with fail
    go_ret
    exact ⟨.inr ⟨rfl, fun h => by have := h.1; omega⟩, rfl⟩
  · obtain ⟨e0, e1⟩ := str_some h0
    by_cases h1 : s.size ≤ 32
    · go_enter Try.func10, Try.ntmps10
      go_wp2_with fail
      go_loop [14] (fun i => ∃ k : Nat, k ≤ s.size ∧ i = .int .i64 k ∧ Hid (∀ j, j < k → okC (chOf s j))) (fun i => s.size - (intOf i).toNat)
      case atStart => exact ⟨0, by omega, rfl, Lib.hid (fun j hj => absurd hj (by omega))⟩
      case round =>
        obtain ⟨k, hk, rfl, ho⟩ := hrel
        by_cases hlt : k < s.size
        · have hc := chOf_at hlt
          have hc2 := chOf_lt s k
          have ho2 : okC (chOf s k) → Hid (∀ j, j < k + 1 → okC (chOf s j)) := fun h => Lib.hid (fun j hj => by
            rcases Nat.lt_succ_iff_lt_or_eq.1 hj with h2 | h2
            · exact ho.out j h2
            · subst h2
              exact h)
          have hno : ¬ okC (chOf s k) → ¬ Name s := fun h hn => h (hn.2.2 k hlt)
          have ho3 := Lib.hid ho2
          have hno2 := Lib.hid hno
          clear ho2 hno
          generalize chOf s k = c at hc hc2 ho3 hno2
          go_wp2_with fail
          all_goals first
            | (go_ret; exact ⟨.inr ⟨rfl, hno2.out (by unfold okC; (try simp only [bne_iff_ne, bne_eq_false_iff_eq, beq_iff_eq, beq_eq_false_iff_ne, Bool.not_eq_false', Bool.not_eq_true', decide_eq_true_eq, decide_eq_false_iff_not, ne_eq] at *); omega)⟩, rfl⟩)
            | (go_round
               case rel => exact ⟨k + 1, by omega, by go_num, ho3.out (by unfold okC; (try simp only [bne_iff_ne, bne_eq_false_iff_eq, beq_iff_eq, beq_eq_false_iff_ne, Bool.not_eq_false', Bool.not_eq_true', decide_eq_true_eq, decide_eq_false_iff_not, ne_eq] at *); omega)⟩
               case measure => simp [intOf]; omega)
        · go_wp2_with fail
          go_ret
          exact ⟨.inl ⟨rfl, by omega, h1, fun j hj => ho.out j (by omega)⟩, rfl⟩
    · go_enter Try.func10, Try.ntmps10
      go_wp2_with fail
      go_ret
      exact ⟨.inr ⟨rfl, fun h => by have := h.2.1; omega⟩, rfl⟩

set_option maxRecDepth 20000 in
set_option maxHeartbeats 1000000 in
theorem refNamed_any (s : ByteArray) (w : World) :
    Calls Try.prog 11 #[.string s] w fun e w' => (e = .returned (.bool true) ∧ Name s ∨ e = .returned (.bool false) ∧ ¬ Name s) ∧ w = w' := by
  by_cases h0 : s.size = 0
  · go_enter Try.func11, Try.ntmps11
    go_wp2_with fail
    go_ret
    exact ⟨.inr ⟨rfl, fun h => by have := h.1; omega⟩, rfl⟩
  · by_cases h1 : s.size ≤ 32
    · go_enter Try.func11, Try.ntmps11
      go_wp2_with fail
      go_loop [3] (fun i => ∃ k : Nat, k ≤ s.size ∧ i = .int .i64 k ∧ Hid (∀ j, j < k → okC (chOf s j))) (fun i => s.size - (intOf i).toNat)
      case atStart => exact ⟨0, by omega, rfl, Lib.hid (fun j hj => absurd hj (by omega))⟩
      case round =>
        obtain ⟨k, hk, rfl, ho⟩ := hrel
        by_cases hlt : k < s.size
        · have hc := chOf_at hlt
          have hc2 := chOf_lt s k
          have ho2 : okC (chOf s k) → Hid (∀ j, j < k + 1 → okC (chOf s j)) := fun h => Lib.hid (fun j hj => by
            rcases Nat.lt_succ_iff_lt_or_eq.1 hj with h2 | h2
            · exact ho.out j h2
            · subst h2
              exact h)
          have hno : ¬ okC (chOf s k) → ¬ Name s := fun h hn => h (hn.2.2 k hlt)
          have ho3 := Lib.hid ho2
          have hno2 := Lib.hid hno
          clear ho2 hno
          generalize chOf s k = c at hc hc2 ho3 hno2
          go_wp2_with fail
          all_goals first
            | (go_ret; exact ⟨.inr ⟨rfl, hno2.out (by unfold okC; (try simp only [bne_iff_ne, bne_eq_false_iff_eq, beq_iff_eq, beq_eq_false_iff_ne, Bool.not_eq_false', Bool.not_eq_true', decide_eq_true_eq, decide_eq_false_iff_not, ne_eq] at *); omega)⟩, rfl⟩)
            | (go_round
               case rel => exact ⟨k + 1, by omega, by go_num, ho3.out (by unfold okC; (try simp only [bne_iff_ne, bne_eq_false_iff_eq, beq_iff_eq, beq_eq_false_iff_ne, Bool.not_eq_false', Bool.not_eq_true', decide_eq_true_eq, decide_eq_false_iff_not, ne_eq] at *); omega)⟩
               case measure => simp [intOf]; omega)
        · go_wp2_with fail
          go_ret
          exact ⟨.inl ⟨rfl, by omega, h1, fun j hj => ho.out j (by omega)⟩, rfl⟩
    · go_enter Try.func11, Try.ntmps11
      go_wp2_with fail
      go_ret
      exact ⟨.inr ⟨rfl, fun h => by have := h.2.1; omega⟩, rfl⟩

theorem named_any (s : ByteArray) (w : World) : Calls Try.prog 4 #[.string s] w fun e w' => e = .returned (.bool true) ∧ w = w' := by
  go_enter Try.func4, Try.ntmps4
  go_wp2_with fail
  refine (isName_any s w).mono ?_
  rintro e w' ⟨h, rfl⟩
  rcases h with ⟨rfl, h1⟩ | ⟨rfl, h1⟩
  all_goals go_wp2_with fail
  all_goals refine (refNamed_any s _).mono ?_
  all_goals rintro e w' ⟨h, rfl⟩
  all_goals rcases h with ⟨rfl, h2⟩ | ⟨rfl, h2⟩
  all_goals first | exact absurd h1 h2 | exact absurd h2 h1 | skip
  all_goals go_wp2_with fail
  all_goals go_ret
  all_goals exact ⟨rfl, rfl⟩

set_option maxRecDepth 100000 in
open Go.ChangeShapes Go.WideShapes in
theorem rootsNamed_calls {H : Type} {enc : TypeId × Value → H} (W : World) (base : Nat) (v0 : Value) (d0 : DataW H) (p0 : List MemPlace)
    (o0 : Value.okWide Try.prog W .any base 9 v0) (h0 : DataW.Trod enc Try.prog W 0 (fun _ => true) true 9 v0 d0 p0)
    (_hsz : (DataW.weightsEach Try.prog [9] [d0]).all (· ≤ reachBytes) = true) :
    Calls Try.prog 4 #[v0] W fun e W' => e = .returned (.bool true) ∧ Below W.heap.size W W' := by
  obtain ⟨s, rfl, _⟩ := Go.ChangeMaps.open_string Try.underlying9 o0 h0
  exact (named_any s W).mono fun _ _ ⟨he, hw⟩ => ⟨he, by rw [← hw]; exact Below.refl _ _⟩
end Go.Proofs.Ytakcnkmlglkkpaa
