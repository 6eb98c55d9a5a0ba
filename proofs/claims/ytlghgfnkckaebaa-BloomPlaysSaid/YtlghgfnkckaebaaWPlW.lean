/- BloomPlays' walk. -/
import Derived.Test.YtlghgfnkckaebaaWDn2
import Derived.Test.YtlghgfnkckaebaaWDn3
import Derived.Test.YtlghgfnkckaebaaWDn4
import Derived.Great.Walk
namespace Go.Proofs.Ytlghgfnkckaebaa
open Go.RowKit
set_option linter.unusedSimpArgs false
set_option linter.unusedVariables false

theorem done_any {w : World} {B PL : Nat} {D : Nat → Option PD} (L : LAt w B PL D) (k F : Int) (kb : List Nat) (hk : kb.length = 32) (h256 : ∀ x ∈ kb, x < 256) (b h : Int) :
    Calls Try.prog 35 #[.slice (some ⟨PL, 0, none⟩) 2 2, .agg (stepV k F kb b h).toArray] w (DoneP w B PL) := by
  obtain ⟨i, hi, hF⟩ := i64_and_one F
  by_cases n1 : k = 1
  · subst n1
    cases hD : D i with
    | none => exact done_add0 hD L hi F hF kb hk h256 b h
    | some d => exact done_add1 hD L hi F hF kb hk h256 b h
  by_cases n2 : k = 2
  · subst n2
    cases hD : D i with
    | none => exact done_has0 hD L hi F hF kb hk h256 b h
    | some d => exact done_has1 hD L hi F hF kb hk h256 b h
  by_cases n3 : k = 3
  · subst n3
    exact done_join L hi F hF kb hk h256 b h
  by_cases n4 : k = 4
  · subst n4
    exact done_meet L hi F hF kb hk h256 b h
  by_cases n5 : k = 5
  · subst n5
    exact done_told L hi F hF kb hk h256 b h
  by_cases n6 : k = 6
  · subst n6
    cases hD : D i with
    | none => exact done_bytes0 hD L hi F hF kb hk h256 b h
    | some d => exact done_bytes1 hD L hi F hF kb hk h256 b h
  by_cases n7 : k = 7
  · subst n7
    cases hD : D i with
    | none => exact done_open0 hD L hi F hF kb hk h256 b h
    | some d => exact done_open1 hD L hi F hF kb hk h256 b h
  by_cases n8 : k = 8
  · subst n8
    exact done_new L hi F hF kb hk h256 b h
  exact done_other L hi F hF kb hk h256 b h k n1 n2 n3 n4 n5 n6 n7 n8
structure StW where
  k : Int
  F : Int
  kb : List Nat
  b : Int
  h : Int
def StW.V (s : StW) : List Value := stepV s.k s.F s.kb s.b s.h
structure StRow (w : World) (A : Option Addr) (n : Nat) (st : Nat → StW) : Prop where
  len : ∀ i, i < n → (st i).kb.length = 32
  lt : ∀ i, i < n → ∀ x ∈ (st i).kb, x < 256
  row : 0 < n → ∃ b off, A = some ⟨b, off, none⟩ ∧ b < w.heap.size ∧ ∀ i, i < n → w.rangeAt b (off + i * 36) (st i).V
theorem StRow.below {w w' : World} {A : Option Addr} {n : Nat} {st : Nat → StW} (h : StRow w A n st) (hb : Below w.heap.size w w') : StRow w' A n st :=
  ⟨h.len, h.lt, fun hn => by
    obtain ⟨b, off, e, hl, hr⟩ := h.row hn
    exact ⟨b, off, e, Nat.lt_of_lt_of_le hl hb.size, fun i hi j v hv => (hb.cell (p := ⟨b, off + i * 36 + j, none⟩) hl).trans (hr i hi j v hv)⟩⟩
def SmP (w : World) (e : Ending) (w' : World) : Prop := (∃ r, e = .returned (.bool r)) ∧ Below w.heap.size w w'
def scrV (b0 b1 h0 h1 : Int) (A : Option Addr) (n c : Nat) : Value := .agg #[.int .i64 b0, .int .i64 b1, .int .i64 h0, .int .i64 h1, .slice A n c]
set_option maxRecDepth 20000 in
set_option maxHeartbeats 2000000 in
theorem small_any (w : World) (b0 b1 h0 h1 : Int) (A : Option Addr) (n c : Nat) (st : Nat → StW) (hst : StRow w A n st) (hn : n ≤ 140737488355328) :
    Calls Try.prog 33 #[scrV b0 b1 h0 h1 A n c] w (SmP w) := by
  obtain ⟨S, hS⟩ : ∃ S, w.heap.size = S := ⟨_, rfl⟩
  obtain ⟨w1, hw1⟩ : ∃ w1, w.alloc (.cells #[.int .i64 b0, .int .i64 b1, .int .i64 h0, .int .i64 h1, .slice A n c] 68) = w1 := ⟨_, rfl⟩
  have hb1 : Hid (Below w.heap.size w w1) := Lib.hid (by rw [← hw1]; exact (Below.refl _ _).alloc (Nat.le_refl _) _)
  have hS1 : w1.heap[S]? = some (.cells #[.int .i64 b0, .int .i64 b1, .int .i64 h0, .int .i64 h1, .slice A n c] 68 (0, 0)) := by rw [← hw1, ← hS]; exact heap_alloc_new w _
  have c0 : w1.cell? ⟨S, 0, none⟩ = some (.int .i64 b0) := cell_of_row _ _ 0 _ _ _ hS1
  have c1 : w1.cell? ⟨S, 1, none⟩ = some (.int .i64 b1) := cell_of_row _ _ 1 _ _ _ hS1
  have c4 : w1.cell? ⟨S, 4, none⟩ = some (.slice A n c) := cell_of_row _ _ 4 _ _ _ hS1
  have hst1 := Lib.hid (hst.below hb1.out)
  clear hS1 hst
  unfold scrV
  by_cases q1 : 16384 < n
  · go_enter Try.func33, Try.ntmps33
    go_wp2_with fail
    go_ret
    exact ⟨⟨_, rfl⟩, hb1.out⟩
  by_cases q2 : 16384 < b0
  · go_enter Try.func33, Try.ntmps33
    go_wp2_with fail
    go_ret
    exact ⟨⟨_, rfl⟩, hb1.out⟩
  by_cases q3 : 16384 < b1
  · go_enter Try.func33, Try.ntmps33
    go_wp2_with fail
    go_ret
    exact ⟨⟨_, rfl⟩, hb1.out⟩
  go_enter Try.func33, Try.ntmps33
  go_wp2_with fail
  go_loopw [3] (fun iv wr => ∃ i : Nat, i ≤ n ∧ iv = .int .i64 (i : Int) ∧ wr = w1) (fun iv _ => n - (intOf iv).toNat)
  case atStart => exact ⟨0, by omega, rfl, rfl⟩
  case round =>
    obtain ⟨i, hi, rfl, rfl⟩ := hrel
    by_cases hlt : i < n
    · obtain ⟨bb, off, rfl, _, hrr⟩ := hst1.out.row (by omega)
      have hr := hrr i hlt
      obtain ⟨v, hv⟩ : ∃ v, (st i).b = v := ⟨_, rfl⟩
      have cb : wr.cell? ⟨bb, off + i * 36 + 34, none⟩ = some (.int .i64 v) := hr 34 _ (by
        have hl := hst1.out.len i hlt
        unfold StW.V stepV
        simp [u8s, List.getElem?_append_right, hl, hv])
      clear hr hrr hv
      by_cases hvb : 16384 < v
      · go_wp2_with fail
        go_ret
        exact ⟨⟨_, rfl⟩, hb1.out⟩
      · go_wp2_with fail
        go_roundw
        case rel => exact ⟨i + 1, by omega, by go_num, trivial⟩
        case measure => simp [intOf]; omega
    · go_wp2_with fail
      go_ret
      exact ⟨⟨_, rfl⟩, hb1.out⟩
end Go.Proofs.Ytlghgfnkckaebaa
