/- Add and Has. (Printed by tools/genadd2.py.) -/
import Derived.Test.YtlghgfnkckaebaaWPlA
namespace Go.Proofs.Ytlghgfnkckaebaa
open Go.RowKit
set_option linter.unusedSimpArgs false
set_option linter.unusedVariables false

def AddP (w : World) (B g A0 c h : Nat) (l kb : List Nat) (e : Ending) (w' : World) : Prop :=
  e = .returned (.bool (addQ (k1Q kb) (k2Q kb) (64 * l.length) l h).2) ∧ Flt w' B g (some ⟨A0, 0, none⟩) c (addQ (k1Q kb) (k2Q kb) (64 * l.length) l h).1 h ∧ Fr (fun k => k = A0) w w'
set_option maxRecDepth 20000 in
set_option maxHeartbeats 2000000 in
theorem add_any {w : World} {B g c h A0 : Nat} {l : List Nat} (f : Flt w B g (some ⟨A0, 0, none⟩) c l h) (kb : List Nat) (hk : kb.length = 32) (h256 : ∀ x ∈ kb, x < 256) :
    Calls Try.prog 24 #[.pointer (some ⟨g, 0, none⟩), .agg (u8s kb).toArray] w (AddP w B g A0 c h l kb) := by
  have f' := Lib.hid f
  have hA0 : Hid (A0 < w.heap.size) := Lib.hid (by
    obtain ⟨a, e, _, hl, _⟩ := f.at
    injection e with e
    injection e with e
    rw [e]
    exact hl)
  obtain ⟨K, hK⟩ : ∃ K, w.heap.size = K := ⟨_, rfl⟩
  obtain ⟨kv, hkv⟩ : ∃ kv, (u8s kb).toArray = kv := ⟨_, rfl⟩
  obtain ⟨w1, hw1⟩ : ∃ w1, w.alloc (.cells kv 51) = w1 := ⟨_, rfl⟩
  obtain ⟨F, hF⟩ : ∃ F, w1.heap.size = F := ⟨_, rfl⟩
  obtain ⟨w2, hw2⟩ : ∃ w2, w1.alloc (.cells #[.bool false] 4) = w2 := ⟨_, rfl⟩
  have hFs : Hid (w.heap.size ≤ F ∧ F = w.heap.size + 1) := Lib.hid (by rw [← hF, ← hw1]; simp)
  have hb2 : Hid (Below w.heap.size w w2) := Lib.hid (by rw [← hw2, ← hw1]; exact ((Below.refl _ _).alloc (Nat.le_refl _) _).alloc (by simp) _)
  have hF2 : Hid (w2.heap[F]? = some (.cells #[.bool false] 4 (0, 0))) := Lib.hid (by rw [← hw2, ← hF]; exact heap_alloc_new w1 _)
  have hK2 : Hid (w2.heap[K]? = some (.cells kv 51 (0, 0))) := Lib.hid (by
    rw [← hw2, Below.heap_alloc w1 _ K (by rw [← hw1, ← hK]; simp), ← hw1, ← hK]
    exact heap_alloc_new w _)
  have hks : Hid (kv.size = 32) := Lib.hid (by rw [← hkv]; simp [u8s, hk])
  have hi32 : Hid ((Try.prog.info? 51).map (·.size) = some 32) := Lib.hid (by kernel_rfl)
  have f2 := Lib.hid (f.below hb2.out)
  have hgF : Hid (g ≠ F) := Lib.hid (by have := f.lt_; have := hFs.out; omega)
  have hAF : Hid (A0 ≠ F) := Lib.hid (by have := hA0.out; have := hFs.out; omega)
  have hth := Lib.hid (there_any f2.out)
  have hpl := Lib.hid (placesA_any f2.out F hgF.out hAF.out hF2.out kb hk h256)
  rw [hkv] at hpl ⊢
  have hw2' := Lib.hid hw2
  clear f hk h256 hkv hw2
  go_enter Try.func24, Try.ntmps24
  go_wp2_with (first
    | (go_at_call 48; rw [hw2'.out]; refine hth.out.mono ?_; rintro e w9 ⟨rfl, rfl⟩)
    | (refine wpList_load_row rfl 51 _ rfl K rfl 51 kv (0, 0) _ hK2.out Try.underlying51 rfl (by rw [hks.out]; exact hi32.out) ?_)
    | (go_at_call 53
       refine hpl.out.mono ?_
       rintro e w5 ⟨⟨v5, rfl⟩, f5, h5, r5⟩
       have f5' := Lib.hid f5
       have h5' := Lib.hid h5
       have r5' := Lib.hid ((Fr.of_below (fun k => k = A0 ∨ k = F) hb2.out).trans r5 (fun _ _ q => q))
       have c5 := cell_of_row _ _ 0 _ _ _ h5
       clear f5 h5 r5))
  go_ret
  exact ⟨rfl, f5'.out, r5'.out.mono (fun k hk q => q.elim (fun q => q) (fun q => by have := hFs.out; omega))⟩
def HasP (w : World) (B g A0 c h : Nat) (l kb : List Nat) (e : Ending) (w' : World) : Prop :=
  e = .returned (.bool (hasQ (k1Q kb) (k2Q kb) (64 * l.length) l h)) ∧ Flt w' B g (some ⟨A0, 0, none⟩) c l h ∧ Fr (fun _ => False) w w'
set_option maxRecDepth 20000 in
set_option maxHeartbeats 2000000 in
theorem has_any {w : World} {B g c h A0 : Nat} {l : List Nat} (f : Flt w B g (some ⟨A0, 0, none⟩) c l h) (kb : List Nat) (hk : kb.length = 32) (h256 : ∀ x ∈ kb, x < 256) :
    Calls Try.prog 26 #[.pointer (some ⟨g, 0, none⟩), .agg (u8s kb).toArray] w (HasP w B g A0 c h l kb) := by
  have f' := Lib.hid f
  have hA0 : Hid (A0 < w.heap.size) := Lib.hid (by
    obtain ⟨a, e, _, hl, _⟩ := f.at
    injection e with e
    injection e with e
    rw [e]
    exact hl)
  obtain ⟨K, hK⟩ : ∃ K, w.heap.size = K := ⟨_, rfl⟩
  obtain ⟨kv, hkv⟩ : ∃ kv, (u8s kb).toArray = kv := ⟨_, rfl⟩
  obtain ⟨w1, hw1⟩ : ∃ w1, w.alloc (.cells kv 51) = w1 := ⟨_, rfl⟩
  obtain ⟨F, hF⟩ : ∃ F, w1.heap.size = F := ⟨_, rfl⟩
  obtain ⟨w2, hw2⟩ : ∃ w2, w1.alloc (.cells #[.bool true] 4) = w2 := ⟨_, rfl⟩
  have hFs : Hid (w.heap.size ≤ F ∧ F = w.heap.size + 1) := Lib.hid (by rw [← hF, ← hw1]; simp)
  have hb2 : Hid (Below w.heap.size w w2) := Lib.hid (by rw [← hw2, ← hw1]; exact ((Below.refl _ _).alloc (Nat.le_refl _) _).alloc (by simp) _)
  have hF2 : Hid (w2.heap[F]? = some (.cells #[.bool true] 4 (0, 0))) := Lib.hid (by rw [← hw2, ← hF]; exact heap_alloc_new w1 _)
  have hK2 : Hid (w2.heap[K]? = some (.cells kv 51 (0, 0))) := Lib.hid (by
    rw [← hw2, Below.heap_alloc w1 _ K (by rw [← hw1, ← hK]; simp), ← hw1, ← hK]
    exact heap_alloc_new w _)
  have hks : Hid (kv.size = 32) := Lib.hid (by rw [← hkv]; simp [u8s, hk])
  have hi32 : Hid ((Try.prog.info? 51).map (·.size) = some 32) := Lib.hid (by kernel_rfl)
  have f2 := Lib.hid (f.below hb2.out)
  have hgF : Hid (g ≠ F) := Lib.hid (by have := f.lt_; have := hFs.out; omega)
  have hAF : Hid (A0 ≠ F) := Lib.hid (by have := hA0.out; have := hFs.out; omega)
  have hth := Lib.hid (there_any f2.out)
  have hth0 := Lib.hid (there_any ((f.below ((Below.refl _ _).alloc (Nat.le_refl _) (.cells kv 51))) : Flt (w.alloc (.cells kv 51)) B g (some ⟨A0, 0, none⟩) c l h))
  rw [hw1] at hth0
  have hpl := Lib.hid (placesH_any f2.out F hgF.out hAF.out hF2.out kb hk h256)
  rw [hkv] at hpl ⊢
  have hw2' := Lib.hid hw2
  clear f hk h256 hkv hw2
  go_enter Try.func26, Try.ntmps26
  go_wp2_with (first
    | (go_at_call 48; refine hth0.out.mono ?_; rintro e w9 ⟨rfl, rfl⟩)
    | (rw [hw2'.out]; refine wpList_load_row rfl 51 _ rfl K rfl 51 kv (0, 0) _ hK2.out Try.underlying51 rfl (by rw [hks.out]; exact hi32.out) ?_)
    | (go_at_call 53
       refine hpl.out.mono ?_
       rintro e w5 ⟨⟨v5, rfl⟩, f5, h5, r5⟩
       have f5' := Lib.hid f5
       have h5' := Lib.hid h5
       have r5' := Lib.hid ((Fr.of_below (fun k => k = F) hb2.out).trans r5 (fun _ _ q => q))
       have c5 := cell_of_row _ _ 0 _ _ _ h5
       clear f5 h5 r5))
  go_ret
  exact ⟨rfl, f5'.out, r5'.out.mono (fun k hk q => by have : k = F := q; have := hFs.out; omega)⟩
end Go.Proofs.Ytlghgfnkckaebaa
