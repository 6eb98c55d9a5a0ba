/- No filter: nil, or one whose hashes are none. -/
import Derived.Test.YtlghgfnkckaebaaWAdd2
import Derived.Test.YtlghgfnkckaebaaRate
import Derived.BigQuiet
namespace Go.Proofs.Ytlghgfnkckaebaa
open Go.RowKit
set_option linter.unusedSimpArgs false
set_option linter.unusedVariables false

/-- No filter. -/
def NoF (w : World) (p : Option Addr) : Prop := p = none ∨ ∃ z A n c, p = some ⟨z, 0, none⟩ ∧ w.heap[z]? = some (.cells #[.slice A n c, .int .i64 0] 55 (0, 0))
theorem NoF.below {w w' : World} {p : Option Addr} (h : NoF w p) (hb : Below w.heap.size w w') : NoF w' p := by
  rcases h with h | ⟨z, A, n, c, h1, h2⟩
  · exact .inl h
  · exact .inr ⟨z, A, n, c, h1, (hb.block z (lt_of_block h2)).trans h2⟩
set_option maxRecDepth 20000 in
theorem there_no {w : World} {p : Option Addr} (h : NoF w p) : Calls Try.prog 48 #[.pointer p] w fun e w' => e = .returned (.bool false) ∧ w = w' := by
  rcases h with rfl | ⟨z, A, n, c, rfl, h⟩
  · exact there_nil w
  · have c1 := cell_of_row _ _ 1 _ _ _ h
    clear h
    go_enter Try.func48, Try.ntmps48
    go_wp2_with fail
    go_ret
    exact ⟨rfl, rfl⟩
section
variable {w : World} {p : Option Addr}
set_option maxRecDepth 20000 in
theorem add_no (h : NoF w p) (kv : Array Value) : Calls Try.prog 24 #[.pointer p, .agg kv] w fun e w' => e = .returned (.bool false) ∧ Below w.heap.size w w' := by
  have hb2 : Hid (Below w.heap.size w ((w.alloc (.cells kv 51)).alloc (.cells #[.bool false] 4))) := Lib.hid (((Below.refl _ _).alloc (Nat.le_refl _) _).alloc (by simp) _)
  have hth := Lib.hid (there_no (h.below hb2.out))
  clear h
  go_enter Try.func24, Try.ntmps24
  go_wp2_with (go_at_call 48; refine hth.out.mono ?_; rintro e w9 ⟨rfl, rfl⟩)
  go_ret
  exact ⟨rfl, hb2.out⟩
set_option maxRecDepth 20000 in
theorem has_no (h : NoF w p) (kv : Array Value) : Calls Try.prog 26 #[.pointer p, .agg kv] w fun e w' => e = .returned (.bool false) ∧ Below w.heap.size w w' := by
  have hb2 : Hid (Below w.heap.size w (w.alloc (.cells kv 51))) := Lib.hid ((Below.refl _ _).alloc (Nat.le_refl _) _)
  have hth := Lib.hid (there_no (h.below hb2.out))
  clear h
  go_enter Try.func26, Try.ntmps26
  go_wp2_with (go_at_call 48; refine hth.out.mono ?_; rintro e w9 ⟨rfl, rfl⟩)
  go_ret
  exact ⟨rfl, hb2.out⟩
set_option maxRecDepth 20000 in
theorem shape_no (h : NoF w p) : Calls Try.prog 55 #[.pointer p] w fun e w' => e = .returned (.tuple #[.int .i64 0, .int .i64 0]) ∧ w = w' := by
  have hth := Lib.hid (there_no h)
  clear h
  go_enter Try.func55, Try.ntmps55
  go_wp2_with (go_at_call 48; refine hth.out.mono ?_; rintro e w9 ⟨rfl, rfl⟩)
  go_ret2
  exact ⟨rfl, rfl⟩
set_option maxRecDepth 20000 in
theorem ones_no (h : NoF w p) : Calls Try.prog 28 #[.pointer p] w fun e w' => e = .returned (.int .i64 0) ∧ w = w' := by
  have hth := Lib.hid (there_no h)
  clear h
  go_enter Try.func28, Try.ntmps28
  go_wp2_with (go_at_call 48; refine hth.out.mono ?_; rintro e w9 ⟨rfl, rfl⟩)
  go_ret
  exact ⟨rfl, rfl⟩
set_option maxRecDepth 20000 in
theorem fill_no (h : NoF w p) : Calls Try.prog 32 #[.pointer p] w fun e w' => e = .returned (.float .f64 nanBits) ∧ w = w' := by
  have hth := Lib.hid (there_no h)
  clear h
  go_enter Try.func32, Try.ntmps32
  go_wp2_with (first
    | (go_at_call 48; refine hth.out.mono ?_; rintro e w9 ⟨rfl, rfl⟩)
    | (go_at_call 12; refine (nan_any _).mono ?_; rintro e w9 ⟨rfl, rfl⟩))
  go_ret
  exact ⟨rfl, rfl⟩
set_option maxRecDepth 20000 in
theorem alarm_no (h : NoF w p) : Calls Try.prog 31 #[.pointer p] w fun e w' => e = .returned (.float .f64 nanBits) ∧ w = w' := by
  have hth := Lib.hid (there_no h)
  clear h
  go_enter Try.func31, Try.ntmps31
  go_wp2_with (first
    | (go_at_call 48; refine hth.out.mono ?_; rintro e w9 ⟨rfl, rfl⟩)
    | (go_at_call 12; refine (nan_any _).mono ?_; rintro e w9 ⟨rfl, rfl⟩))
  go_ret
  exact ⟨rfl, rfl⟩
set_option maxRecDepth 20000 in
theorem bytes_no (h : NoF w p) : Calls Try.prog 22 #[.pointer p] w fun e w' => e = .returned (.slice none 0 0) ∧ w = w' := by
  have hth := Lib.hid (there_no h)
  clear h
  go_enter Try.func22, Try.ntmps22
  go_wp2_with (go_at_call 48; refine hth.out.mono ?_; rintro e w9 ⟨rfl, rfl⟩)
  go_ret
  exact ⟨rfl, rfl⟩
end
end Go.Proofs.Ytlghgfnkckaebaa
