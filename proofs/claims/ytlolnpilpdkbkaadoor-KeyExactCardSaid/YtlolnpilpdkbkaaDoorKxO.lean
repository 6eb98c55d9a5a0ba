/- Of, the document's Of; a digit's number. -/
import Derived.Test.YtlolnpilpdkbkaaDoorKxF
import Derived.Test.YtlolnpilpdkbkaaDoorSum
import Derived.Test.YtlolnpilpdkbkaaDoorRefSum
namespace Go.Proofs.YtlolnpilpdkbkaaDoor
open Go.RowKit
set_option linter.unusedSimpArgs false
set_option linter.unusedVariables false

set_option maxRecDepth 100000 in
set_option maxHeartbeats 1000000 in
theorem of_any (w : World) (ks b : List Nat) (A : Option Addr) (n c : Nat) (hn : b.length = n) (hT : ∀ W, Below w.heap.size w W → Tab W ks) (hk : ks.length = 64) (hkl : ∀ x ∈ ks, x < 4294967296) (hb : ∀ x ∈ b, x < 256) (hA : Byt w w.heap.size A b) (hc : n ≤ c) (hcm : c ≤ 9223372036854775807) :
    Calls Tryd.prog 6 #[.slice A n c] w fun e w' => e = .returned (.agg (u8s (digest ks b)).toArray) ∧ Below w.heap.size w w' := by
  subst hn
  obtain ⟨g, hg⟩ : ∃ g, w.heap.size = g := ⟨_, rfl⟩
  obtain ⟨zv, hzv⟩ : ∃ zv, (u8s (zeros 32)).toArray = zv := ⟨_, rfl⟩
  obtain ⟨w1, hw1⟩ : ∃ w1, w.alloc (.cells zv 24) = w1 := ⟨_, rfl⟩
  have hB : Below w.heap.size w w1 := by rw [← hw1]; exact (Below.refl _ _).alloc (Nat.le_refl _) _
  have hk1 : w1.heap[g]? = some (.cells zv 24 (0, 0)) := by rw [← hw1, ← hg]; exact heap_alloc_new w _
  have hsum := Lib.hid (shaSum_any w1 ks b A c (hT w1 hB) hk hkl hb (hA.below hB |>.mono hB.size) hc hcm)
  have hi32 : Hid ((Tryd.prog.info? 24).map (·.size) = some 32) := Lib.hid (by kernel_rfl)
  have hz := zeroKy
  rw [hzv] at hz
  have hs32 : Hid (zv.size = 32) := Lib.hid (by rw [← hzv]; simp [u8s, zeros])
  have hw1' := Lib.hid hw1
  obtain ⟨kv, hkv⟩ : ∃ kv, (u8s (digest ks b)).toArray = kv := ⟨_, rfl⟩
  have hkl2 : Hid (kv.size = 32) := Lib.hid (by rw [← hkv]; simp [u8s, digest_length])
  have hko : Hid (kv.all (·.oneCell') = true) := Lib.hid (by rw [← hkv]; exact one_u8s _)
  rw [hkv] at hsum ⊢
  have hB' := Lib.hid hB
  have hk1' := Lib.hid hk1
  obtain ⟨n, hn⟩ : ∃ n, b.length = n := ⟨_, rfl⟩
  rw [hn] at hsum hc ⊢
  clear hT hk hkl hb hA hkv hzv hB hk1 hn
  go_enter Tryd.func6, Tryd.ntmps6
  go_wp2_with (first
    | (go_at_call 20
       try rw [hw1'.out]
       refine hsum.out.mono ?_
       rintro e w2 ⟨rfl, hb2⟩
       have hB2 := Lib.hid (hB'.out.trans (hb2.mono hB'.out.size))
       have hk2 := Lib.hid ((hb2.block g (lt_of_block hk1'.out)).trans hk1'.out)
       clear hb2 hsum)
    | (refine wpList_store_row rfl 24 _ _ rfl g kv rfl rfl 24 _ hk2.out (by rw [hkl2.out]; exact hi32.out) (by rw [hs32.out, hkl2.out]) hko.out ?_))
  have hres := setRow_heap _ g _ kv 24 _ hk2.out
  refine bodyPost_ret (results_cell_row rfl _ _ g 24 _ (0, 0) _ rfl hres Tryd.underlying24 rfl (by rw [hkl2.out]; exact hi32.out)) rfl ?_
  exact ⟨rfl, by first | exact setRow_below hB2.out (Nat.le_of_eq hg) _ | exact (setRow_below hB2.out (Nat.le_of_eq hg) _).mono (Nat.le_of_eq hg.symm)⟩
set_option maxRecDepth 100000 in
set_option maxHeartbeats 1000000 in
theorem refOf_any (w : World) (ks b : List Nat) (A : Option Addr) (n c : Nat) (hn : b.length = n) (hT : ∀ W, Below w.heap.size w W → RTab W ks ∧ BTab W) (hk : ks.length = 64) (hkl : ∀ x ∈ ks, x < 4294967296) (hb : ∀ x ∈ b, x < 256) (hA : Byt w w.heap.size A b) (hL : n ≤ 140737488355328) :
    Calls Tryd.prog 7 #[.slice A n c] w fun e w' => e = .returned (.agg (u8s (digest ks b)).toArray) ∧ Below w.heap.size w w' := by
  subst hn
  obtain ⟨g, hg⟩ : ∃ g, w.heap.size = g := ⟨_, rfl⟩
  obtain ⟨zv, hzv⟩ : ∃ zv, (u8s (zeros 32)).toArray = zv := ⟨_, rfl⟩
  obtain ⟨w1, hw1⟩ : ∃ w1, w.alloc (.cells zv 24) = w1 := ⟨_, rfl⟩
  have hB : Below w.heap.size w w1 := by rw [← hw1]; exact (Below.refl _ _).alloc (Nat.le_refl _) _
  have hk1 : w1.heap[g]? = some (.cells zv 24 (0, 0)) := by rw [← hw1, ← hg]; exact heap_alloc_new w _
  have hsum := Lib.hid (refSum_any w1 ks b A c (hT w1 hB).1 (hT w1 hB).2 hk hkl hb (hA.below hB |>.mono hB.size) hL)
  have hi32 : Hid ((Tryd.prog.info? 24).map (·.size) = some 32) := Lib.hid (by kernel_rfl)
  have hz := zeroKy
  rw [hzv] at hz
  have hs32 : Hid (zv.size = 32) := Lib.hid (by rw [← hzv]; simp [u8s, zeros])
  have hw1' := Lib.hid hw1
  obtain ⟨kv, hkv⟩ : ∃ kv, (u8s (digest ks b)).toArray = kv := ⟨_, rfl⟩
  have hkl2 : Hid (kv.size = 32) := Lib.hid (by rw [← hkv]; simp [u8s, digest_length])
  have hko : Hid (kv.all (·.oneCell') = true) := Lib.hid (by rw [← hkv]; exact one_u8s _)
  rw [hkv] at hsum ⊢
  have hB' := Lib.hid hB
  have hk1' := Lib.hid hk1
  obtain ⟨n, hn⟩ : ∃ n, b.length = n := ⟨_, rfl⟩
  rw [hn] at hsum ⊢
  clear hT hk hkl hb hA hkv hzv hB hk1 hn hL
  go_enter Tryd.func7, Tryd.ntmps7
  go_wp2_with (first
    | (go_at_call 21
       try rw [hw1'.out]
       refine hsum.out.mono ?_
       rintro e w2 ⟨rfl, hb2⟩
       have hB2 := Lib.hid (hB'.out.trans (hb2.mono hB'.out.size))
       have hk2 := Lib.hid ((hb2.block g (lt_of_block hk1'.out)).trans hk1'.out)
       clear hb2 hsum)
    | (refine wpList_store_row rfl 24 _ _ rfl g kv rfl rfl 24 _ hk2.out (by rw [hkl2.out]; exact hi32.out) (by rw [hs32.out, hkl2.out]) hko.out ?_))
  have hres := setRow_heap _ g _ kv 24 _ hk2.out
  refine bodyPost_ret (results_cell_row rfl _ _ g 24 _ (0, 0) _ rfl hres Tryd.underlying24 rfl (by rw [hkl2.out]; exact hi32.out)) rfl ?_
  exact ⟨rfl, by first | exact setRow_below hB2.out (Nat.le_of_eq hg) _ | exact (setRow_below hB2.out (Nat.le_of_eq hg) _).mono (Nat.le_of_eq hg.symm)⟩
end Go.Proofs.YtlolnpilpdkbkaaDoor
