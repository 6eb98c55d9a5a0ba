/- works: a set of one key. -/
import Derived.Test.YtlolnpilpdkbkaaKxN
import Derived.Test.YtlolnpilpdkbkaaKxE
import Derived.Test.YtlolnpilpdkbkaaHexW
import Derived.Test.YtlolnpilpdkbkaaKeyM
import Derived.Great.Walk
namespace Go.Proofs.Ytlolnpilpdkbkaa
open Go.RowKit Go.Maps
set_option linter.unusedSimpArgs false
set_option linter.unusedVariables false

def k1L : List Nat := 1 :: zeros 31
def k2L : List Nat := 2 :: zeros 31
theorem buildK1 (w : World) : (Instr.build 25 #[(0, .int .u8 1)]).run Try.prog w = .ok (.agg (u8s k1L).toArray) w := run_build w _ _ _ (by kernel_rfl)
theorem buildK2 (w : World) : (Instr.build 25 #[(0, .int .u8 2)]).run Try.prog w = .ok (.agg (u8s k2L).toArray) w := run_build w _ _ _ (by kernel_rfl)
theorem built_one : Try.prog.builtSlice 25 1 [(0, .agg (u8s k1L).toArray)] = some (u8s k1L).toArray := by kernel_rfl
theorem keys_some : (keyOf Try.prog 25 (.agg (u8s k1L).toArray)).isSome = true ∧ (keyOf Try.prog 25 (.agg (u8s k2L).toArray)).isSome = true := ⟨by kernel_rfl, by kernel_rfl⟩
theorem hex_k1 : (hexL k1L).length = 64 ∧ (hexL k1L)[1]? = some 49 := ⟨by kernel_rfl, by kernel_rfl⟩
theorem works_keys : ∃ l1 l2, keyOf Try.prog 25 (.agg (u8s k1L).toArray) = some l1 ∧ keyOf Try.prog 25 (.agg (u8s k2L).toArray) = some l2 ∧
    Maps.size (setOf (H := Unit) (.agg []) [l1]) = 1 ∧ Maps.has (setOf (H := Unit) (.agg []) [l1]) l1 = true ∧ Maps.has (setOf (H := Unit) (.agg []) [l1]) l2 = false := by
  obtain ⟨l1, h1⟩ := Option.isSome_iff_exists.1 keys_some.1
  obtain ⟨l2, h2⟩ := Option.isSome_iff_exists.1 keys_some.2
  have hk : ∀ x ∈ [l1], WideAt.IsKeyLit x := by
    intro x hx
    simp at hx
    subst hx
    exact lawK.key h1
  have hne : l1 ≠ l2 := by
    intro e
    rw [← e] at h2
    have := lawK.inj h1 h2
    simp [k1L, k2L, u8s] at this
  refine ⟨l1, l2, h1, h2, ?_, ?_, ?_⟩
  · rw [size_setOf _ _ hk]; simp [addKey]
  · rw [has_setOf _ _ _ hk]; simp [WideAt.sameKey_self (hk l1 (by simp))]
  · rw [has_setOf _ _ _ hk]; simp [sameKey_ne hne]
theorem index_k1 (W : World) : (Instr.index 9 (.string ⟨(hexL k1L).toArray⟩) (.int .i64 1)).run Try.prog W = .ok (.int .u8 49) W := by kernel_rfl
theorem keysAt_one (w : World) {l : Lit} (h : keyOf Try.prog 25 (.agg (u8s k1L).toArray) = some l) : KeysAt (w.alloc (.cells (u8s k1L).toArray 25)) (some ⟨w.heap.size, 0, none⟩) [l] := by
  intro k l' hk
  have hk0 : k = 0 := by
    have := (List.getElem?_eq_some_iff.1 hk).1
    simp at this
    exact this
  subst hk0
  simp at hk
  subst hk
  refine ⟨_, _, k1L, rfl, by simp, by kernel_rfl, ?_, h⟩
  intro j v hj
  rw [show 0 + 0 * 32 + j = j by omega, cell_of_row _ _ j _ _ _ (heap_alloc_new w _)]
  simpa using hj
set_option maxRecDepth 100000 in
set_option maxHeartbeats 4000000 in
theorem works_any (w : World) : Calls Try.prog 20 #[] w fun e w' => e = .returned (.bool true) ∧ Below w.heap.size w w' := by
  obtain ⟨l1, l2, h1, h2, hz1, hs1, hs2⟩ := works_keys
  have hi32 : Hid ((Try.prog.info? 25).map (·.size) = some 32) := Lib.hid (by kernel_rfl)
  have b1 : ((u8s (zeros 32)).set 0 (Value.int .u8 1)).toArray = (u8s k1L).toArray := by kernel_rfl
  have b2 : ((u8s (zeros 32)).set 0 (Value.int .u8 2)).toArray = (u8s k2L).toArray := by kernel_rfl
  have hix := index_k1
  have hzk := zeroKy
  have hx1 : Hid ((u8s k1L).toArray.size = 32) := Lib.hid (by kernel_rfl)
  have hx2 : Hid ((u8s k2L).toArray.size = 32) := Lib.hid (by kernel_rfl)
  have hl1 : Hid (k1L.length = 32) := Lib.hid (by kernel_rfl)
  have hl2 : Hid (k2L.length = 32) := Lib.hid (by kernel_rfl)
  have hlt1 : Hid (∀ x ∈ k1L, x < 256) := Lib.hid (by decide)
  obtain ⟨kv1, hk1⟩ : ∃ kv1, (u8s k1L).toArray = kv1 := ⟨_, rfl⟩
  have hk1' := Lib.hid hk1
  have hone : Hid (kv1.all (·.oneCell') = true) := Lib.hid (by rw [← hk1]; exact all_oneCell_toArray u8s_one)
  have hz32 : Hid ((u8s (zeros 32)).toArray.size = kv1.size) := Lib.hid (by rw [← hk1]; rfl)
  have hb0 := built_one
  rw [hk1] at b1 hx1 hb0
  have hb0' := Lib.hid hb0
  clear hk1 hb0
  go_enter Try.func20, Try.ntmps20
  go_wp2_with (first
    | (refine wpList_load_row rfl 25 _ rfl w.heap.size rfl 25 kv1 (0, 0) _ hk5.out Try.underlying25 rfl (by rw [hx1.out]; exact hi32.out) ?_)
    | (refine wpList_store_row rfl 25 _ _ rfl w.heap.size kv1 rfl rfl 25 _ (heap_alloc_new w _) (by rw [hx1.out]; exact hi32.out) hz32.out hone.out ?_
       have hk5 := Lib.hid (setRow_heap _ w.heap.size _ kv1 25 _ (heap_alloc_new w (.cells (u8s (zeros 32)).toArray 25)))
       have hb5 : Hid (Below w.heap.size w ((w.alloc (.cells (u8s (zeros 32)).toArray 25)).setRow w.heap.size kv1)) := Lib.hid (setRow_below ((Below.refl _ _).alloc (Nat.le_refl _) _) (Nat.le_refl _) _)
       generalize ((w.alloc (.cells (u8s (zeros 32)).toArray 25)).setRow w.heap.size kv1) = w1 at hk5 hb5 ⊢)
    | (refine Great.wpList_buildSliceTo rfl 34 25 1 _ rfl _ rfl _ rfl Try.underlying34 kv1 (by rw [List.map_toArray]; exact hb0'.out) ?_))
  have hbB : Hid (Below w.heap.size w (w1.alloc (.cells kv1 25))) := Lib.hid (hb5.out.alloc hb5.out.size _)
  have hkB : Hid ((w1.alloc (.cells kv1 25)).heap[w.heap.size]? = some (.cells kv1 25 (0, 0))) := Lib.hid ((heap_alloc_old w1 _ (Array.getElem?_eq_some_iff.1 hk5.out).1).trans hk5.out)
  have hKA : KeysAt (w1.alloc (.cells kv1 25)) (some ⟨w1.heap.size, 0, none⟩) [l1] := by rw [← hk1'.out]; exact keysAt_one w1 h1
  generalize (w1.alloc (.cells kv1 25)) = w2 at hbB hkB hKA ⊢
  refine (newSet_any w2 _ [l1] 1 1 rfl (by omega) hKA).mono ?_
  rintro e w3 ⟨rfl, ⟨hS, hb3⟩⟩
  simp only [List.length_cons, List.length_nil, Nat.zero_add, List.take_succ_cons, List.take_zero] at hS
  have hk3 := Lib.hid ((hb3.block _ (Array.getElem?_eq_some_iff.1 hkB.out).1).trans hkB.out)
  have hB3 : Hid (Below w.heap.size w w3) := Lib.hid (hbB.out.trans (hb3.mono hbB.out.size))
  have hS' := Lib.hid hS
  generalize w2.heap.size = M0 at hS hS' ⊢
  have hLen : Hid _ := Lib.hid (setLen_any w3 (M0 + 1) M0 1 _ hS)
  rw [hz1] at hLen
  have hH1 := Lib.hid (setHas_any w3 (M0 + 1) M0 1 _ hS k1L hl1.out l1 h1)
  rw [hs1, hk1'.out] at hH1
  have hH2 : Hid (∀ W, Below w3.heap.size w3 W → Calls Try.prog 16 #[.pointer (some ⟨M0 + 1, 0, none⟩), .agg (u8s k2L).toArray] W fun e w' => e = .returned (.bool false) ∧ Below W.heap.size W w') := Lib.hid (fun W hW => by
    have := setHas_any W (M0 + 1) M0 1 _ (hS.below hW (Nat.le_refl _)) k2L hl2.out l2 h2
    rw [hs2] at this
    exact this)
  have hX := Lib.hid (fun W => hex_any k1L W hl1.out hlt1.out)
  rw [hk1'.out] at hX
  clear hS hb3 hKA h1 h2 hs1 hs2 hz1
  go_wp2_with (first
    | (go_at_call 14; refine hLen.out.mono ?_; rintro e w4 ⟨rfl, h5⟩; have h6 := h5.symm; clear h5; subst h6; clear hLen)
    | (go_at_call 16; refine hH1.out.mono ?_; rintro e w4 ⟨rfl, hb4⟩; have hb4' := Lib.hid hb4; have hk4 := Lib.hid ((hb4.block _ (Array.getElem?_eq_some_iff.1 hk3.out).1).trans hk3.out); clear hH1 hb4)
    | (go_at_call 16; refine (hH2.out _ hb4'.out).mono ?_; rintro e w5 ⟨rfl, hb5⟩; have hb5' := Lib.hid hb5; have hk5' := Lib.hid ((hb5.block _ (Array.getElem?_eq_some_iff.1 hk4.out).1).trans hk4.out); clear hH2 hb5)
    | (refine wpList_load_row_g rfl 25 _ rfl w.heap.size rfl 25 kv1 (0, 0) _ hk3.out Try.underlying25 rfl (by rw [hx1.out]; exact hi32.out) ?_)
    | (refine wpList_load_row rfl 25 _ rfl w.heap.size rfl 25 kv1 (0, 0) _ hk5'.out Try.underlying25 rfl (by rw [hx1.out]; exact hi32.out) ?_)
    | (go_at_call 7; refine (hX.out _).mono ?_; rintro e w6 ⟨rfl, hb6⟩; have hb6' := Lib.hid hb6; clear hX hb6))
  go_ret
  have c1 : Below w.heap.size w w4 := hB3.out.trans (hb4'.out.mono hB3.out.size)
  have c2 : Below w.heap.size w w5 := c1.trans (hb5'.out.mono c1.size)
  exact ⟨rfl, c2.trans (hb6'.out.mono c2.size)⟩
end Go.Proofs.Ytlolnpilpdkbkaa
