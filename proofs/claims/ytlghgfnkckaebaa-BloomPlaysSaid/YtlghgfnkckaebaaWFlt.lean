/- Filters in memory; shaped, May, there. -/
import Derived.Test.YtlghgfnkckaebaaWDecO
namespace Go.Proofs.Ytlghgfnkckaebaa
open Go.RowKit
set_option linter.unusedSimpArgs false
set_option linter.unusedVariables false

/-- May a filter have so many bits and hashes? -/
def shp (b h : Int) : Prop := 64 ≤ b ∧ b ≤ 1048576 ∧ b % 64 = 0 ∧ 1 ≤ h ∧ h ≤ 16
instance (b h : Int) : Decidable (shp b h) := by unfold shp; infer_instance
set_option maxRecDepth 20000 in
set_option maxHeartbeats 1000000 in
theorem shaped_any (b h : Int) (w : World) : Calls Try.prog 43 #[.int .i64 b, .int .i64 h] w fun e w' => e = .returned (.bool (decide (shp b h))) ∧ w = w' := by
  have e3 : 64 ≤ b → b.tmod 64 = b % 64 := fun h => Int.tmod_eq_emod_of_nonneg (by omega)
  by_cases h1 : 64 ≤ b
  · have e3 := e3 h1
    by_cases h2 : b ≤ 1048576
    · by_cases h3 : b % 64 = 0
      · by_cases h4 : 1 ≤ h
        · by_cases h5 : h ≤ 16
          · have hs : Hid (decide (shp b h) = true) := Lib.hid (decide_eq_true ⟨h1, h2, h3, h4, h5⟩)
            rw [hs.out]
            go_enter Try.func43, Try.ntmps43
            go_wp2_with fail
            go_ret
            exact ⟨rfl, rfl⟩
          · have hs : Hid (decide (shp b h) = false) := Lib.hid (decide_eq_false fun q => h5 q.2.2.2.2)
            rw [hs.out]
            go_enter Try.func43, Try.ntmps43
            go_wp2_with fail
            go_ret
            exact ⟨rfl, rfl⟩
        · have hs : Hid (decide (shp b h) = false) := Lib.hid (decide_eq_false fun q => h4 q.2.2.2.1)
          rw [hs.out]
          go_enter Try.func43, Try.ntmps43
          go_wp2_with fail
          go_ret
          exact ⟨rfl, rfl⟩
      · have hs : Hid (decide (shp b h) = false) := Lib.hid (decide_eq_false fun q => h3 q.2.2.1)
        rw [hs.out]
        go_enter Try.func43, Try.ntmps43
        go_wp2_with fail
        go_ret
        exact ⟨rfl, rfl⟩
    · have hs : Hid (decide (shp b h) = false) := Lib.hid (decide_eq_false fun q => h2 q.2.1)
      rw [hs.out]
      go_enter Try.func43, Try.ntmps43
      go_wp2_with fail
      go_ret
      exact ⟨rfl, rfl⟩
  · clear e3
    have hs : Hid (decide (shp b h) = false) := Lib.hid (decide_eq_false fun q => h1 q.1)
    rw [hs.out]
    go_enter Try.func43, Try.ntmps43
    go_wp2_with fail
    go_ret
    exact ⟨rfl, rfl⟩
set_option maxRecDepth 20000 in
set_option maxHeartbeats 1000000 in
theorem refMay_any (b h : Int) (w : World) : Calls Try.prog 27 #[.int .i64 b, .int .i64 h] w fun e w' => e = .returned (.bool (decide (shp b h))) ∧ w = w' := by
  have e3 : 64 ≤ b → b.tmod 64 = b % 64 := fun h => Int.tmod_eq_emod_of_nonneg (by omega)
  by_cases h1 : 64 ≤ b
  · have e3 := e3 h1
    by_cases h2 : b ≤ 1048576
    · by_cases h3 : b % 64 = 0
      · by_cases h4 : 1 ≤ h
        · by_cases h5 : h ≤ 16
          · have hs : Hid (decide (shp b h) = true) := Lib.hid (decide_eq_true ⟨h1, h2, h3, h4, h5⟩)
            rw [hs.out]
            go_enter Try.func27, Try.ntmps27
            go_wp2_with fail
            go_ret
            exact ⟨rfl, rfl⟩
          · have hs : Hid (decide (shp b h) = false) := Lib.hid (decide_eq_false fun q => h5 q.2.2.2.2)
            rw [hs.out]
            go_enter Try.func27, Try.ntmps27
            go_wp2_with fail
            go_ret
            exact ⟨rfl, rfl⟩
        · have hs : Hid (decide (shp b h) = false) := Lib.hid (decide_eq_false fun q => h4 q.2.2.2.1)
          rw [hs.out]
          go_enter Try.func27, Try.ntmps27
          go_wp2_with fail
          go_ret
          exact ⟨rfl, rfl⟩
      · have hs : Hid (decide (shp b h) = false) := Lib.hid (decide_eq_false fun q => h3 q.2.2.1)
        rw [hs.out]
        go_enter Try.func27, Try.ntmps27
        go_wp2_with fail
        go_ret
        exact ⟨rfl, rfl⟩
    · have hs : Hid (decide (shp b h) = false) := Lib.hid (decide_eq_false fun q => h2 q.2.1)
      rw [hs.out]
      go_enter Try.func27, Try.ntmps27
      go_wp2_with fail
      go_ret
      exact ⟨rfl, rfl⟩
  · clear e3
    have hs : Hid (decide (shp b h) = false) := Lib.hid (decide_eq_false fun q => h1 q.1)
    rw [hs.out]
    go_enter Try.func27, Try.ntmps27
    go_wp2_with fail
    go_ret
    exact ⟨rfl, rfl⟩
/-- The words of a filter, in a row of its own. -/
def u64s (l : List Nat) : List Value := l.map fun x : Nat => .int .u64 (x : Int)
theorem u64s_length (l : List Nat) : (u64s l).length = l.length := by simp [u64s]
structure RowU (w : World) (B : Nat) (A : Option Addr) (l : List Nat) : Prop where
  row : 0 < l.length → ∃ a cs, A = some ⟨a, 0, none⟩ ∧ B ≤ a ∧ w.heap[a]? = some (.cells (u64s l ++ cs).toArray 77 (0, 0))
/-- The program's filter: its words, its hashes. -/
structure Flt (w : World) (B g : Nat) (A : Option Addr) (c : Nat) (l : List Nat) (h : Nat) : Prop where
  blk : w.heap[g]? = some (.cells #[.slice A l.length c, .int .i64 (h : Int)] 55 (0, 0))
  gB : B ≤ g
  row : RowU w B A l
  h1 : 1 ≤ h
  h16 : h ≤ 16
  n1 : 1 ≤ l.length
  nm : l.length ≤ 16384
  lc : l.length ≤ c
  lt : ∀ x ∈ l, x < 18446744073709551616
section
variable {w w' : World} {B g h c : Nat} {A : Option Addr} {l : List Nat}
theorem Flt.lt_ (f : Flt w B g A c l h) : g < w.heap.size := (Array.getElem?_eq_some_iff.1 f.blk).1
theorem Flt.c0 (f : Flt w B g A c l h) : w.cell? ⟨g, 0, none⟩ = some (.slice A l.length c) := by simp [World.cell?, f.blk]
theorem Flt.c1 (f : Flt w B g A c l h) : w.cell? ⟨g, 1, none⟩ = some (.int .i64 (h : Int)) := by simp [World.cell?, f.blk]
theorem Flt.at (f : Flt w B g A c l h) : ∃ a, A = some ⟨a, 0, none⟩ ∧ B ≤ a ∧ a < w.heap.size ∧ a ≠ g ∧ ∀ (j x : Nat), l[j]? = some x → w.cell? ⟨a, j, none⟩ = some (.int .u64 (x : Int)) := by
  obtain ⟨a, cs, e, hB, ha⟩ := f.row.row f.n1
  refine ⟨a, e, hB, (Array.getElem?_eq_some_iff.1 ha).1, fun he => ?_, fun j x hj => ?_⟩
  · rw [he, f.blk] at ha
    injection ha with ha
    injection ha with _ ha _
    exact absurd ha (by decide)
  · have hl : j < l.length := (List.getElem?_eq_some_iff.1 hj).1
    rw [cell_of_row w a j _ _ _ ha]
    rw [List.getElem?_toArray, List.getElem?_append_left (by rw [u64s_length]; exact hl)]
    simp [u64s, hj]
theorem Flt.below (f : Flt w B g A c l h) (hb : Below w.heap.size w w') : Flt w' B g A c l h :=
  { f with blk := (hb.block g f.lt_).trans f.blk, row := ⟨fun hp => by
      obtain ⟨a, cs, e, hB, ha⟩ := f.row.row hp
      exact ⟨a, cs, e, hB, (hb.block a (Array.getElem?_eq_some_iff.1 ha).1).trans ha⟩⟩ }
theorem Flt.base {B' : Nat} (f : Flt w B g A c l h) (hB : B' ≤ B) : Flt w B' g A c l h :=
  { f with gB := Nat.le_trans hB f.gB, row := ⟨fun hp => by
      obtain ⟨a, cs, e, hB2, ha⟩ := f.row.row hp
      exact ⟨a, cs, e, Nat.le_trans hB hB2, ha⟩⟩ }
set_option maxRecDepth 20000 in
theorem there_any (f : Flt w B g A c l h) : Calls Try.prog 48 #[.pointer (some ⟨g, 0, none⟩)] w fun e w' => e = .returned (.bool true) ∧ w = w' := by
  have c1 := f.c1
  have h1 := f.h1
  have g1 : (0 : Int) < (h : Int) := by omega
  have g2 : 0 < h := by omega
  clear f
  go_enter Try.func48, Try.ntmps48
  go_wp2_with fail
  go_ret
  exact ⟨rfl, rfl⟩
end
set_option maxRecDepth 20000 in
theorem there_nil (w : World) : Calls Try.prog 48 #[.pointer none] w fun e w' => e = .returned (.bool false) ∧ w = w' := by
  go_enter Try.func48, Try.ntmps48
  go_wp2_with fail
  go_ret
  exact ⟨rfl, rfl⟩
end Go.Proofs.Ytlghgfnkckaebaa
