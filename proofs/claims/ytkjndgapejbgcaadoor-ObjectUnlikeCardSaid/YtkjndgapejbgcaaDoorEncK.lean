/- An encoder's further methods: Key, Len, the widths. -/
import Derived.Test.YtkjndgapejbgcaaDoorEncV
namespace Go.Proofs.YtkjndgapejbgcaaDoor
open Go.RowKit
set_option linter.unusedSimpArgs false

theorem len_any {w : World} {g c : Nat} {A : Option Addr} {l : List Nat} (h : EncAt w g A c l) : Calls Tryd.prog 39 #[.pointer (some ⟨g, 0, none⟩)] w fun e w' => e = .returned (.int .i64 (l.length : Nat)) ∧ w = w' := by
  have c0 := h.c0
  clear h
  go_enter Tryd.func39, Tryd.ntmps39
  go_wp2_with fail
  go_ret
  exact ⟨rfl, rfl⟩

set_option maxRecDepth 20000 in
set_option maxHeartbeats 1000000 in
theorem key_any {w : World} {g c : Nat} {A : Option Addr} {l : List Nat} (h : EncAt w g A c l) (x : Key32) (hs : l.length ≤ 70368744177000) :
    Calls Tryd.prog 36 #[.pointer (some ⟨g, 0, none⟩), .agg (encK x).toArray] w fun e w' => (∃ v, e = .returned v) ∧ ∃ A' c', EncAt w' g A' c' (l ++ x.1) ∧ EncR g w A w' A' := by
  have hb : Below w.heap.size w (w.alloc (.cells (encK x).toArray 28)) := (Below.refl _ _).alloc (Nat.le_refl _) _
  have hk : EncAt (w.alloc (.cells (encK x).toArray 28)) g A c l := h.keep hb
  have hx : Byt (w.alloc (.cells (encK x).toArray 28)) (w.heap.size + 1) (some ⟨w.heap.size, 0, none⟩) x.1 := fun _ => by
    refine ⟨w.heap.size, 0, rfl, by omega, fun j hj => ?_⟩
    rw [Nat.zero_add, cell_of_row _ _ _ _ _ _ (heap_alloc_new w _)]
    have := u8s_get x.1 j hj
    simpa [encK] using this
  have hrw := raw_any hk x.1 (some ⟨w.heap.size, 0, none⟩) 32 32 _ x.2 hx (by omega)
  have hrw' := Lib.hid hrw
  have hr : Hid (EncR g w A (w.alloc (.cells (encK x).toArray 28)) A) := Lib.hid ⟨rfl, rfl, rfl, by simp, fun k hk _ _ => Below.heap_alloc w _ k hk, .inl rfl⟩
  clear hb hk hx hrw h
  go_enter Tryd.func36, Tryd.ntmps36
  go_wp2_with fail
  refine hrw'.out.mono ?_
  rintro e w' ⟨⟨v, rfl⟩, A', c', h1, h2⟩
  have h1' := Lib.hid h1
  have h2' := Lib.hid (hr.out.trans h2)
  clear h1 h2
  go_wp2_with fail
  go_end0
  exact ⟨⟨_, rfl⟩, A', c', h1'.out, h2'.out⟩

set_option maxRecDepth 20000 in
theorem width8_any (w : World) : Calls Tryd.prog 68 #[] w fun e w' => e = .returned (.int .i64 1) ∧ w = w' := by
  go_enter Tryd.func68, Tryd.ntmps68
  go_wp2_with fail
  go_loop [1, 2] (fun i v => (i = .int .i64 0 ∧ v = .int .u8 1) ∨ (i = .int .i64 1 ∧ v = .int .u8 0)) (fun i _ => 2 - (intOf i).toNat)
  case atStart => exact .inl ⟨rfl, rfl⟩
  case round =>
    rcases hrel with ⟨rfl, rfl⟩ | ⟨rfl, rfl⟩
    · go_wp2_with fail
      go_round
      case rel => exact .inr ⟨rfl, rfl⟩
      case measure => simp [intOf]
    · go_wp2_with fail
      go_ret
      exact ⟨rfl, rfl⟩
end Go.Proofs.YtkjndgapejbgcaaDoor
