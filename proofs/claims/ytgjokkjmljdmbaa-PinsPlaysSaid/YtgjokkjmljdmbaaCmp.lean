/- Compare. -/
import Derived.Test.YtgjokkjmljdmbaaKeyM
import Derived.Lib.BytesEntry
import Derived.BigRegion
namespace Go.Proofs.Ytgjokkjmljdmbaa
open Go.RowKit
set_option linter.unusedSimpArgs false

theorem load_bytes (w : World) (a : List Nat) (A : Option Addr) (c B : Nat) (h1 : Byt w B A a) (ha : ∀ x ∈ a, x < 256) :
    (Extern.Bytes.bytesOf (.slice A a.length c)).run Try.prog w = .ok ⟨(b8 a).toArray⟩ w := by
  rcases Nat.eq_zero_or_pos a.length with h0 | h0
  · obtain rfl : a = [] := List.length_eq_zero_iff.1 h0
    cases A <;> rfl
  · obtain ⟨g, o, rfl, _, hc⟩ := h1 h0
    have hl := Lib.run_loadBytesX (P := Try.prog) w (a.map fun x : Nat => (x : Int)) ⟨g, o, none⟩ .empty (fun j x hj => by
      have hj2 := (List.getElem?_eq_some_iff.1 hj).1
      simp only [List.length_map] at hj2
      rw [Addr.add_lit, hc j hj2]
      simp only [List.getElem?_map, List.getElem?_eq_getElem hj2, Option.map_some, Option.some.injEq] at hj
      show some (Value.int .u8 ((a[j]?.getD 0 : Nat) : Int)) = _
      rw [List.getElem?_eq_getElem hj2, Option.getD_some, hj])
    rw [List.length_map] at hl
    have he : (⟨ByteArray.empty.data ++ (Lib.bytesOf (a.map fun x : Nat => (x : Int))).toArray⟩ : ByteArray) = ⟨(b8 a).toArray⟩ := by
      apply ByteArray.ext
      show (#[] : Array UInt8) ++ (Lib.bytesOf (a.map fun x : Nat => (x : Int))).toArray = (b8 a).toArray
      simp [Lib.bytesOf, b8]
    rw [he] at hl
    exact hl

set_option maxRecDepth 100000 in
set_option maxHeartbeats 1000000 in
theorem bytesCompare_any (w : World) (a b : List Nat) (A A2 : Option Addr) (c c2 : Nat) (h1 : Byt w w.heap.size A a) (h2 : Byt w w.heap.size A2 b) (ha : ∀ x ∈ a, x < 256) (hb : ∀ x ∈ b, x < 256) :
    Calls Try.prog 47 #[.slice A a.length c, .slice A2 b.length c2] w fun e w' => e = .returned (.int .i64 (Lib.compareBytes (b8 a) (b8 b))) ∧ w = w' := by
  have hrun : (callFunc 51 #[.slice A a.length c, .slice A2 b.length c2]).run Try.prog w = .ok (.value (.int .i64 (Lib.compareBytes (b8 a) (b8 b)))) w := by
    rw [run_callFunc_extern Try.func51 (by kernel_rfl) (by kernel_rfl) (by kernel_rfl) (e := Extern.BytealgCompare.compare) (by kernel_rfl)]
    have h : (Extern.BytealgCompare.compare #[.slice A a.length c, .slice A2 b.length c2]).run Try.prog w = .ok (.int .i64 (Lib.compareBytes (b8 a) (b8 b))) w := by
      change Sem.run Try.prog (do pure (goInt (Extern.BytealgCompare.cmp (← Extern.Bytes.bytesOf (.slice A a.length c)) (← Extern.Bytes.bytesOf (.slice A2 b.length c2))))) w = _
      simp only [Sem.run_bind, Sem.run_pure, Result.andThen, load_bytes w a A c _ h1 ha, load_bytes w b A2 c2 _ h2 hb]
      rw [Lib.cmp_eq]
      rfl
    rw [h]
    rfl
  obtain ⟨C, hC⟩ : ∃ C, Hid (∀ _ : Unit, Lib.compareBytes (b8 a) (b8 b) = C) := ⟨_, Lib.hid fun _ => rfl⟩
  rw [hC.out ()] at hrun ⊢
  clear h1 h2 ha hb
  go_enter Try.func47, Try.ntmps47
  go_wp2_with fail
  go_ret
  exact ⟨rfl, rfl⟩

theorem bs_of {w : World} {g : Nat} {a : List Nat} (h : BlkY w g a) : Byt w w.heap.size (some ⟨g, 0, none⟩) a := fun _ =>
  ⟨g, 0, rfl, h.lt, fun j hj => by rw [Nat.zero_add]; exact h.cell hj⟩
set_option maxRecDepth 100000 in
set_option maxHeartbeats 1000000 in
theorem compareX_any (w : World) (a b : List Nat) (hal : a.length = 32) (hbl : b.length = 32) (ha : ∀ x ∈ a, x < 256) (hb : ∀ x ∈ b, x < 256) :
    Calls Try.prog 36 #[.agg (u8s a).toArray, .agg (u8s b).toArray] w fun e w' => e = .returned (.int .i64 (Lib.compareBytes (b8 a) (b8 b))) ∧ ∃ q, w' = ((w.alloc (.cells (u8s a).toArray 29)).alloc (.cells (u8s b).toArray 29)).drewN q := by
  have k1 : BlkY ((w.alloc (.cells (u8s a).toArray 29)).alloc (.cells (u8s b).toArray 29)) w.heap.size a := heap_alloc2_old w _ _
  have k2 : BlkY ((w.alloc (.cells (u8s a).toArray 29)).alloc (.cells (u8s b).toArray 29)) (w.heap.size + 1) b := heap_alloc2_new w _ _
  have hc : ∀ W : World, (∀ m, W.cell? m = ((w.alloc (.cells (u8s a).toArray 29)).alloc (.cells (u8s b).toArray 29)).cell? m) → W.heap.size = ((w.alloc (.cells (u8s a).toArray 29)).alloc (.cells (u8s b).toArray 29)).heap.size →
      Calls Try.prog 47 #[.slice (some ⟨w.heap.size, 0, none⟩) 32 32, .slice (some ⟨w.heap.size + 1, 0, none⟩) 32 32] W fun e w' => e = .returned (.int .i64 (Lib.compareBytes (b8 a) (b8 b))) ∧ W = w' := fun W hW hs => by
    have r1 : Byt W W.heap.size (some ⟨w.heap.size, 0, none⟩) a := fun hn => by
      obtain ⟨g, o, e, h1, h2⟩ := bs_of k1 hn
      exact ⟨g, o, e, by omega, fun j hj => (hW _).trans (h2 j hj)⟩
    have r2 : Byt W W.heap.size (some ⟨w.heap.size + 1, 0, none⟩) b := fun hn => by
      obtain ⟨g, o, e, h1, h2⟩ := bs_of k2 hn
      exact ⟨g, o, e, by omega, fun j hj => (hW _).trans (h2 j hj)⟩
    have := bytesCompare_any W a b _ _ 32 32 r1 r2 ha hb
    rw [hal, hbl] at this
    exact this
  obtain ⟨C, hC⟩ : ∃ C, Hid (∀ _ : Unit, Lib.compareBytes (b8 a) (b8 b) = C) := ⟨_, Lib.hid fun _ => rfl⟩
  rw [hC.out ()] at hc ⊢
  have hc' := Lib.hid hc
  clear k1 k2 ha hb hal hbl hc
  go_enter Try.func36, Try.ntmps36
  go_wp2_with fail
  obtain ⟨w2, hw2⟩ : ∃ w2, Hid (∀ _ : Unit, ((w.alloc (.cells (u8s a).toArray 29)).alloc (.cells (u8s b).toArray 29)) = w2) := ⟨_, Lib.hid fun _ => rfl⟩
  rw [hw2.out ()] at hc' ⊢
  go_quiet ((go_at_call 47; exact quiet_e (hc'.out _ (fun _ => rfl) rfl)))
  go_wp2_with fail
  go_ret
  exact ⟨rfl, _, by rw [hw2.out ()]⟩
theorem compare_any (w : World) (a b : List Nat) (hal : a.length = 32) (hbl : b.length = 32) (ha : ∀ x ∈ a, x < 256) (hb : ∀ x ∈ b, x < 256) :
    Calls Try.prog 36 #[.agg (u8s a).toArray, .agg (u8s b).toArray] w fun e w' => e = .returned (.int .i64 (Lib.compareBytes (b8 a) (b8 b))) ∧ Below w.heap.size w w' :=
  (compareX_any w a b hal hbl ha hb).mono fun e w' h => by
    obtain ⟨h1, q, rfl⟩ := h
    exact ⟨h1, below_drewN (((Below.refl _ _).alloc (Nat.le_refl _) _).alloc (by simp) _) _⟩
end Go.Proofs.Ytgjokkjmljdmbaa
