/- lent, left: a list with marks behind it. -/
import Derived.Test.YtnjbpacnmiimlaaDoorGearW2
import Derived.Test.YtnjbpacnmiimlaaDoorArgs
namespace Go.Proofs.YtnjbpacnmiimlaaDoor
open Go.RowKit

/-- A list and i marks. -/
def marked (b : List Nat) (i : Nat) : List Nat := b ++ List.replicate i 165
theorem marked_length (b : List Nat) (i : Nat) : (marked b i).length = b.length + i := by simp [marked]
theorem marked_succ (b : List Nat) (i : Nat) : u8s (marked b (i + 1)) = u8s (marked b i) ++ [.int .u8 165] := by
  simp [marked, u8s, List.replicate_succ', List.map_append]

set_option maxRecDepth 100000 in
set_option maxHeartbeats 1000000 in
theorem lent_any (w : World) (b : List Nat) (A : Option Addr) (c : Nat) (hA : Byt w w.heap.size A b) (hL : b.length ≤ 140737488355328) :
    Calls Tryd.prog 10 #[.slice A b.length c] w fun e w' => (∃ ga cc, e = .returned (.slice (some ⟨ga, 0, none⟩) b.length cc) ∧ Own w' w.heap.size 5 1 (some ⟨ga, 0, none⟩) (b.length + 80) cc (u8s (marked b 80))) ∧ Below w.heap.size w w' := by
  obtain ⟨L, hLL⟩ : ∃ L, Hid (∀ _ : Unit, b.length = L) := ⟨_, Lib.hid fun _ => rfl⟩
  rw [hLL.out ()] at hL ⊢
  have hA' := Lib.hid hA
  clear hA
  go_enter Tryd.func10, Tryd.ntmps10
  go_wp2_with (first
    | (at_builtin; refine wpList_app elB w rfl _ _ rfl rfl (Own.nil w w.heap.size _ _) rfl (m := L) (g := fun j => .int .u8 ((b[j]?.getD 0 : Nat) : Int)) (B2 := w.heap.size) (by have := hA'.out; rw [Nat.mul_one, ← hLL.out ()]; exact this) (fun _ _ => rfl) (by unfold maxLen; omega) (by omega) (Nat.le_refl _) L (by omega) (u8s (marked b 0)) (by rw [Nat.mul_one, List.nil_append]; have := u8s_app (l := []) (m := b) (k := L) (hLL.out ()).symm; simpa [u8s, marked] using this) ?_; intro A2 c2 w2 o2 _ hb2))
  go_loopw [3, 4] (fun s i wr => ∃ (k : Nat) (A : Option Addr) (c : Nat), k ≤ 80 ∧ i = .int .i64 k ∧ s = .slice A (L + k) c ∧ Hid (Own wr w.heap.size 5 1 A (L + k) c (u8s (marked b k))) ∧ Hid (Below w.heap.size w wr)) (fun _ i _ => 80 - (intOf i).toNat)
  case atStart => exact ⟨0, _, _, by omega, rfl, rfl, Lib.hid o2, Lib.hid hb2⟩
  case round =>
    clear o2 hb2
    obtain ⟨k, A3, c3, hk, rfl, rfl, hown, hbel⟩ := hrel
    by_cases hlt : k < 80
    · go_wp2_with (at_builtin; go_loud (refine wpList_app1 elB _ #[_] rfl rfl _ _ rfl rfl hown.out rfl (by intro u hu; simp at hu; subst hu; rfl) (by unfold maxLen; omega) (by omega) hbel.out.size (L + (k + 1)) rfl _ rfl ?_); intro A' c' w' hown' _ hb')
      go_roundw
      case rel => exact ⟨k + 1, A', c', by omega, by go_num, rfl, Lib.hid (by rw [marked_succ]; exact hown'), Lib.hid (hbel.out.trans hb')⟩
      case measure => simp [intOf]; omega
    · rw [show k = 80 by omega] at hown ⊢
      obtain ⟨ga, rfl⟩ := hown.out.head (by omega)
      have hle := hown.out.le
      have hsl : ∀ W : World, (Instr.slice 24 (.slice (some ⟨ga, 0, none⟩) (L + 80) c3) none (some (.int .i64 (L : Int))) none).run Tryd.prog W = .ok (.slice (some ⟨ga, 0, none⟩) L c3) W := fun W => by
        have hs : (sizeOf (Tryd.prog.elem 24)).run Tryd.prog W = .ok 1 W := by kernel_rfl
        rw [run_slice_h W 24 _ (L + 80) c3 (by rw [Tryd.underlying24]; kernel_rfl) .i64 (L : Int) (by omega) (by omega), hs]
        simp only [Result.andThen, sliced, Int.toNat_natCast, Nat.zero_mul, Nat.sub_zero]
        rw [if_neg (by omega)]
        simp [Addr.add_lit]
      go_wp2_with fail
      go_ret
      exact ⟨⟨ga, c3, rfl, hown.out⟩, hbel.out⟩
end Go.Proofs.YtnjbpacnmiimlaaDoor
