/- The document's Add, Has. -/
import Derived.Test.YtlghgfnkckaebaaWRf1
namespace Go.Proofs.Ytlghgfnkckaebaa
open Go.RowKit
set_option linter.unusedSimpArgs false
set_option linter.unusedVariables false

def RAddP (w : World) (B g a0 c h : Nat) (l kb : List Nat) (e : Ending) (w' : World) : Prop :=
  e = .returned (.bool (addQ (k1Q kb) (k2Q kb) (64 * l.length) l h).2) ∧ RF w' B g a0 c (addQ (k1Q kb) (k2Q kb) (64 * l.length) l h).1 h ∧ Fr (fun k => k = a0) w w'
set_option maxRecDepth 20000 in
set_option maxHeartbeats 2000000 in
theorem radd_any {w : World} {B g a0 c h : Nat} {l : List Nat} (f : RF w B g a0 c l h) (kb : List Nat) (hk : kb.length = 32) (h256 : ∀ x ∈ kb, x < 256) (kv : Array Value) (hkv : (u8s kb).toArray = kv) :
    Calls Try.prog 64 #[.pointer (some ⟨g, 0, none⟩), .agg kv] w (RAddP w B g a0 c h l kb) := by
  have h16 := RFlt.h16 f
  have n1 := f.n1
  have nm := f.nm
  obtain ⟨K, hK⟩ : ∃ K, w.heap.size = K := ⟨_, rfl⟩
  obtain ⟨w1, hw1⟩ : ∃ w1, w.alloc (.cells kv 51) = w1 := ⟨_, rfl⟩
  have hb1 : Hid (Below w.heap.size w w1) := Lib.hid (by rw [← hw1]; exact (Below.refl _ _).alloc (Nat.le_refl _) _)
  have hK1 : Hid (w1.heap[K]? = some (.cells kv 51 (0, 0))) := Lib.hid (by rw [← hw1, ← hK]; exact heap_alloc_new w _)
  have hks : Hid (kv.size = 32) := Lib.hid (by rw [← hkv]; simp [u8s, hk])
  have hi32 : Hid ((Try.prog.info? 51).map (·.size) = some 32) := Lib.hid (by kernel_rfl)
  have hpl := Lib.hid (places_any (f.below hb1.out) kb hk h256 kv hkv)
  have ff := Lib.hid f
  have hgA := Lib.hid f.ne
  have hofa := Lib.hid f.off
  unfold RAddP
  unfold PlcP at hpl
  rw [placesQ_length] at hpl
  obtain ⟨a, ha⟩ : ∃ a, k1Q kb = a := ⟨_, rfl⟩
  obtain ⟨b, hb⟩ : ∃ b, k2Q kb = b := ⟨_, rfl⟩
  rw [ha, hb] at hpl ⊢
  obtain ⟨N, hN⟩ : ∃ N, 64 * l.length = N := ⟨_, rfl⟩
  have hN' := Lib.hid hN
  rw [hN] at hpl ⊢
  have hN1 : 64 ≤ N := by omega
  have hN2 : N ≤ 1048576 := by omega
  have hw1' := Lib.hid hw1
  clear hk h256 hkv ha hb n1 nm f hN
  go_enter Try.func64, Try.ntmps64
  go_wp2_with (first
    | (refine wpList_load_row rfl 51 _ rfl K rfl 51 kv (0, 0) _ hK1.out Try.underlying51 rfl (by rw [hks.out]; exact hi32.out) ?_)
    | (go_at_call 75
       refine hpl.out.mono ?_
       rintro e w2 ⟨⟨AP, cP, rfl, oP⟩, b2⟩
       have hoP := Lib.hid (oP.base hb1.out.size)
       have hb2 := Lib.hid (hb1.out.trans (b2.mono hb1.out.size))
       clear hpl oP b2))
  have f2 := Lib.hid (ff.out.below hb2.out)
  have hr2 : Hid (Fr (fun k => k = a0) w w2) := Lib.hid (Fr.of_below _ hb2.out)
  have h1 := RFlt.h1 ff.out
  obtain ⟨ap, hap⟩ := hoP.out.head h1
  subst hap
  have hap2 : Hid (w.heap.size ≤ ap) := Lib.hid (hoP.out.lt ap rfl).1
  clear hb1 hb2
  go_loopw [5, 7] (fun bv iv wr => ∃ (i : Nat) (t : Bool), i ≤ h ∧ bv = .bool t ∧ iv = .int .i64 (i : Int) ∧ Hid ((addQ a b N l i).2 = t) ∧ Hid (RF wr B g a0 c (addQ a b N l i).1 h) ∧ Hid (Own wr w.heap.size 3 1 (some ⟨ap, 0, none⟩) h cP (i64s (placesQ a b N h))) ∧ Hid (Fr (fun k => k = a0) w wr)) (fun _ iv _ => h - (intOf iv).toNat)
  case atStart => exact ⟨0, false, by omega, rfl, rfl, Lib.hid rfl, f2, hoP, hr2⟩
  case round =>
    clear f2 hoP hr2
    obtain ⟨i, t, hi, rfl, rfl, ht, hf, hoP, hR⟩ := hrel
    by_cases hlt : i < h
    · obtain ⟨r, hr⟩ : ∃ r, atQ a b N i = r := ⟨_, rfl⟩
      have hrN : r < N := by rw [← hr]; exact Nat.mod_lt _ (by omega)
      have cp : wr.cell? ⟨ap, i, none⟩ = some (.int .i64 (r : Int)) := by
        rw [hoP.out.cell i (by omega), i64s_at (placesQ_at a b N h i hlt), hr]
      have hlen : Hid ((addQ a b N l i).1.length = l.length) := Lib.hid (addQ_length _ _ _ _ _)
      have c0 := hf.out.c0
      rw [hlen.out, hN'.out] at c0
      have hrl : Hid (r < 64 * (addQ a b N l i).1.length) := Lib.hid (by rw [hlen.out, hN'.out]; exact hrN)
      have cb := hf.out.bit r hrl.out
      have fz := hf.out.fz r
      obtain ⟨v, hv⟩ : ∃ v, bitAt (addQ a b N l i).1 r = v := ⟨_, rfl⟩
      rw [hv] at cb
      have hnext2 : Hid ((addQ a b N l (i + 1)).2 = (t || !v)) := Lib.hid (by rw [addQ]; simp only; rw [ht.out, hr, hv])
      have hnext1 : Hid ((addQ a b N l (i + 1)).1 = setAt (addQ a b N l i).1 r) := Lib.hid (by rw [addQ, hr])
      have hf5 : Hid (∀ k, RF ((wr.drewN k).setCell ⟨a0, r, none⟩ (.bool true)) B g a0 c (addQ a b N l (i + 1)).1 h) := Lib.hid fun k => by
        rw [hnext1.out]
        exact (hf.out.below (below_drewN (Below.refl _ _) k)).put r hrl.out
      have ho5 : Hid (∀ k, Own ((wr.drewN k).setCell ⟨a0, r, none⟩ (.bool true)) w.heap.size 3 1 (some ⟨ap, 0, none⟩) h cP (i64s (placesQ a b N h))) := Lib.hid fun k => (hoP.out.drewN k).setFar (p := ⟨a0, r, none⟩) hofa.out.2 _
      have hr5 : Hid (∀ k, Fr (fun k => k = a0) w ((wr.drewN k).setCell ⟨a0, r, none⟩ (.bool true))) := Lib.hid fun k => (hR.out.drewN k).trans (Fr.setCell _ ⟨a0, r, none⟩ _) (fun _ _ q => q)
      clear hr hv ht hf hoP hR
      cases v with
      | true =>
        go_wp2_with fail
        go_quiet (fail)
        go_wp2_with fail
        go_region
        all_goals
          go_wp2_with fail
          go_roundw
          case rel => exact ⟨i + 1, t, by omega, rfl, by go_num, Lib.hid (by rw [hnext2.out]; simp), hf5.out _, ho5.out _, hr5.out _⟩
          case measure => simp [intOf]; omega
      | false =>
        go_wp2_with fail
        go_quiet (fail)
        go_wp2_with fail
        go_region
        all_goals
          go_wp2_with fail
          go_roundw
          case rel => exact ⟨i + 1, true, by omega, rfl, by go_num, Lib.hid (by rw [hnext2.out]; simp), hf5.out _, ho5.out _, hr5.out _⟩
          case measure => simp [intOf]; omega
    · have hih : i = h := by omega
      subst hih
      go_wp2_with fail
      go_ret
      exact ⟨ret_bool (by first | rw [ht.out] | rw [ht]), hf.out, hR.out⟩
def RHasP (w : World) (h : Nat) (l kb : List Nat) (e : Ending) (w' : World) : Prop :=
  e = .returned (.bool (hasQ (k1Q kb) (k2Q kb) (64 * l.length) l h)) ∧ Below w.heap.size w w'
theorem hasQ_all (a b N : Nat) (l : List Nat) : ∀ (h i : Nat), i < h → bitAt l (atQ a b N i) = false → hasQ a b N l h = false := fun h i hi hf => by
  cases hh : hasQ a b N l h with
  | false => rfl
  | true =>
    have := (hasQ_iff a b N l h).1 hh i hi
    rw [hf] at this
    cases this
set_option maxRecDepth 20000 in
set_option maxHeartbeats 2000000 in
theorem rhas_any {w : World} {B g a0 c h : Nat} {l : List Nat} (f : RF w B g a0 c l h) (kb : List Nat) (hk : kb.length = 32) (h256 : ∀ x ∈ kb, x < 256) (kv : Array Value) (hkv : (u8s kb).toArray = kv) :
    Calls Try.prog 65 #[.pointer (some ⟨g, 0, none⟩), .agg kv] w (RHasP w h l kb) := by
  have h16 := RFlt.h16 f
  have n1 := f.n1
  have nm := f.nm
  obtain ⟨K, hK⟩ : ∃ K, w.heap.size = K := ⟨_, rfl⟩
  obtain ⟨w1, hw1⟩ : ∃ w1, w.alloc (.cells kv 51) = w1 := ⟨_, rfl⟩
  have hb1 : Hid (Below w.heap.size w w1) := Lib.hid (by rw [← hw1]; exact (Below.refl _ _).alloc (Nat.le_refl _) _)
  have hK1 : Hid (w1.heap[K]? = some (.cells kv 51 (0, 0))) := Lib.hid (by rw [← hw1, ← hK]; exact heap_alloc_new w _)
  have hks : Hid (kv.size = 32) := Lib.hid (by rw [← hkv]; simp [u8s, hk])
  have hi32 : Hid ((Try.prog.info? 51).map (·.size) = some 32) := Lib.hid (by kernel_rfl)
  have hpl := Lib.hid (places_any (f.below hb1.out) kb hk h256 kv hkv)
  have ff := Lib.hid f
  unfold RHasP
  unfold PlcP at hpl
  rw [placesQ_length] at hpl
  obtain ⟨a, ha⟩ : ∃ a, k1Q kb = a := ⟨_, rfl⟩
  obtain ⟨b, hb⟩ : ∃ b, k2Q kb = b := ⟨_, rfl⟩
  rw [ha, hb] at hpl ⊢
  obtain ⟨N, hN⟩ : ∃ N, 64 * l.length = N := ⟨_, rfl⟩
  have hN' := Lib.hid hN
  rw [hN] at hpl ⊢
  have hN1 : 64 ≤ N := by omega
  have hN2 : N ≤ 1048576 := by omega
  obtain ⟨T, hT⟩ : ∃ T, Hid (hasQ a b N l h = T) := ⟨_, Lib.hid rfl⟩
  rw [hT.out]
  have hw1' := Lib.hid hw1
  clear hk h256 hkv ha hb n1 nm f hN
  go_enter Try.func65, Try.ntmps65
  go_wp2_with (first
    | (refine wpList_load_row rfl 51 _ rfl K rfl 51 kv (0, 0) _ hK1.out Try.underlying51 rfl (by rw [hks.out]; exact hi32.out) ?_)
    | (go_at_call 75
       refine hpl.out.mono ?_
       rintro e w2 ⟨⟨AP, cP, rfl, oP⟩, b2⟩
       have hoP := Lib.hid (oP.base hb1.out.size)
       have hb2 := Lib.hid (hb1.out.trans (b2.mono hb1.out.size))
       clear hpl oP b2))
  have h1 := RFlt.h1 ff.out
  obtain ⟨ap, hap⟩ := hoP.out.head h1
  subst hap
  clear hb1
  go_loopw [6] (fun iv wr => ∃ (i k : Nat), i ≤ h ∧ iv = .int .i64 (i : Int) ∧ Hid (∀ j, j < i → bitAt l (atQ a b N j) = true) ∧ wr = w2.drewN k) (fun iv _ => h - (intOf iv).toNat)
  case atStart => exact ⟨0, 0, by omega, rfl, Lib.hid fun j hj => by omega, rfl⟩
  case round =>
    obtain ⟨i, k, hi, rfl, hall, hwr⟩ := hrel
    have hbr : Hid (Below w.heap.size w wr) := Lib.hid (by rw [hwr]; exact below_drewN hb2.out k)
    have hf := Lib.hid (ff.out.below hbr.out)
    have hoR : Hid (Own wr w.heap.size 3 1 (some ⟨ap, 0, none⟩) h cP (i64s (placesQ a b N h))) := Lib.hid (by rw [hwr]; exact hoP.out.drewN k)
    have hwr' := Lib.hid hwr
    clear hwr
    by_cases hlt : i < h
    · obtain ⟨r, hr⟩ : ∃ r, atQ a b N i = r := ⟨_, rfl⟩
      have hrN : r < N := by rw [← hr]; exact Nat.mod_lt _ (by omega)
      have cp : wr.cell? ⟨ap, i, none⟩ = some (.int .i64 (r : Int)) := by
        rw [hoR.out.cell i (by omega), i64s_at (placesQ_at a b N h i hlt), hr]
      have c0 := hf.out.c0
      rw [hN'.out] at c0
      have cb := hf.out.bit r (by rw [hN'.out]; exact hrN)
      obtain ⟨v, hv⟩ : ∃ v, bitAt l r = v := ⟨_, rfl⟩
      rw [hv] at cb
      cases v with
      | true =>
        have hall2 : Hid (∀ j, j < i + 1 → bitAt l (atQ a b N j) = true) := Lib.hid fun j hj => by
          rcases Nat.lt_or_ge j i with h | h
          · exact hall.out j h
          · rw [show j = i by omega, hr, hv]
        clear hr hv hf hoR
        go_wp2_with fail
        go_quiet (fail)
        go_wp2_with fail
        go_roundw
        case rel => exact ⟨i + 1, _, by omega, by go_num, hall2, by rw [hwr'.out, World.drewN_drewN]⟩
        case measure => simp [intOf]; omega
      | false =>
        have hTf : Hid (T = false) := Lib.hid (by rw [← hT.out]; exact hasQ_all a b N l h i hlt (by rw [hr, hv]))
        clear hr hv hf hoR
        go_wp2_with fail
        go_quiet (fail)
        go_wp2_with fail
        go_ret
        exact ⟨ret_bool (by first | rw [hTf.out] | rw [hTf]), below_drewN hbr.out _⟩
    · have hTt : Hid (T = true) := Lib.hid (by rw [← hT.out]; exact (hasQ_iff a b N l h).2 fun j hj => hall.out j (by omega))
      clear hf hoR
      go_wp2_with fail
      go_ret
      exact ⟨ret_bool (by first | rw [hTt.out] | rw [hTt]), hbr.out⟩
end Go.Proofs.Ytlghgfnkckaebaa
