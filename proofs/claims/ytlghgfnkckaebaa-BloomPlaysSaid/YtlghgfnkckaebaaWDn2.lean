/- The law's done: Add, Has. (Printed by tools/genwdone.py.) -/
import Derived.Test.YtlghgfnkckaebaaWDn1
import Derived.Deep.RegionHeld3
namespace Go.Proofs.Ytlghgfnkckaebaa
open Go.RowKit
set_option linter.unusedSimpArgs false
set_option linter.unusedVariables false

set_option maxRecDepth 20000 in
set_option maxHeartbeats 4000000 in
theorem done_add0 {w : World} {B PL i : Nat} {D : Nat → Option PD} (hDi : D i = none) (L : LAt w B PL D) (hi : i < 2) (F : Int) (hF : bits .and .i64 F 1 = (i : Int)) (kb : List Nat) (hk : kb.length = 32) (h256 : ∀ x ∈ kb, x < 256) (b h : Int) :
    Calls Try.prog 35 #[.slice (some ⟨PL, 0, none⟩) 2 2, .agg (stepV 1 F kb b h).toArray] w (DoneP w B PL) := by
  obtain ⟨S, hS⟩ : ∃ S, w.heap.size = S := ⟨_, rfl⟩
  obtain ⟨sv, hsv⟩ : ∃ sv, (stepV 1 F kb b h).toArray = sv := ⟨_, rfl⟩
  obtain ⟨w1, hw1⟩ : ∃ w1, w.alloc (.cells sv 75) = w1 := ⟨_, rfl⟩
  have hw1s : w1.heap.size = S + 1 := by rw [← hw1, ← hS]; simp
  obtain ⟨w2, hw2⟩ : ∃ w2, w1.alloc (.cells #[.pointer none, .pointer none] 57) = w2 := ⟨_, rfl⟩
  have hb1 : Below w.heap.size w w1 := by rw [← hw1]; exact (Below.refl _ _).alloc (Nat.le_refl _) _
  have hb12 : Below w1.heap.size w1 w2 := by rw [← hw2]; exact (Below.refl _ _).alloc (Nat.le_refl _) _
  have hB2 : Hid (Below w.heap.size w w2) := Lib.hid (hb1.trans (hb12.mono hb1.size))
  have hS1 : w1.heap[S]? = some (.cells sv 75 (0, 0)) := by rw [← hw1, ← hS]; exact heap_alloc_new w _
  have hS2 : Hid (w2.heap[S]? = some (.cells sv 75 (0, 0))) := Lib.hid ((hb12.block S (by rw [hw1s]; omega)).trans hS1)
  have hP2 : Hid (w2.heap[S + 1]? = some (.cells #[.pointer none, .pointer none] 57 (0, 0))) := Lib.hid (by rw [← hw2, ← hw1s]; exact heap_alloc_new w1 _)
  have s0 : w1.cell? ⟨S, 0, none⟩ = some (.int .i64 1) := by rw [cell_of_row _ _ 0 _ _ _ hS1, ← hsv]; simp [stepV]
  have s1 : w1.cell? ⟨S, 1, none⟩ = some (.int .i64 F) := by rw [cell_of_row _ _ 1 _ _ _ hS1, ← hsv]; simp [stepV]
  have hr1 := Lib.hid ((L.below hb1).range hi)
  have L2 := Lib.hid (L.below hB2.out)
  have hBs : Hid (B ≤ w.heap.size) := Lib.hid (Nat.le_trans L.off (Nat.le_of_lt L.lt_))
  have hone : Hid ((#[PD.pp (D i), PD.qq (D i)] : Array Value).all (·.oneCell') = true) := Lib.hid (by cases D i <;> simp [PD.pp, PD.qq, Value.oneCell'])
  obtain ⟨pv, hpv⟩ : ∃ pv, PD.pp (D i) = pv := ⟨_, rfl⟩
  obtain ⟨qv, hqv⟩ : ∃ qv, PD.qq (D i) = qv := ⟨_, rfl⟩
  rw [hpv, hqv] at hr1 hone
  have hpv' := Lib.hid hpv
  have hqv' := Lib.hid hqv
  have hi2 : Hid ((Try.prog.info? 57).map (·.size) = some 2) := Lib.hid (by kernel_rfl)
  have hi32 : Hid ((Try.prog.info? 51).map (·.size) = some 32) := Lib.hid (by kernel_rfl)
  have hL0 := Lib.hid L
  have hsv' := Lib.hid hsv
  have hi' := Lib.hid hi
  have hSz := Lib.hid hS
  have hk' := Lib.hid hk
  have h256' := Lib.hid h256
  rw [hsv]
  have hDi' := Lib.hid hDi
  rw [hDi] at hpv hqv
  simp only [PD.pp, PD.qq] at hpv hqv
  subst hpv hqv
  clear L hb1 hb12 hS1 hk h256 hsv hDi
  go_enter Try.func35, Try.ntmps35
  go_wp2_with (first
    | (refine wpList_load_mid_g rfl 57 _ rfl PL (i * 2) rfl [.pointer none, .pointer none] _ hr1.out Try.underlying57 rfl hi2.out ?_; clear hr1)
    | (refine wpList_store_row rfl 57 _ _ rfl (S + 1) #[.pointer none, .pointer none] rfl rfl 57 _ hP2.out hi2.out rfl hone.out ?_
       obtain ⟨w3, hw3⟩ : ∃ w3, w2.setRow (S + 1) #[.pointer none, .pointer none] = w3 := ⟨_, rfl⟩
       have hP3 : Hid (w3.heap[S + 1]? = some (.cells #[.pointer none, .pointer none] 57 (0, 0))) := Lib.hid (by rw [← hw3]; exact setRow_heap w2 (S + 1) _ _ _ _ hP2.out)
       have hS3 : Hid (w3.heap[S]? = some (.cells sv 75 (0, 0))) := Lib.hid (by rw [← hw3, setRow_other _ _ _ _ (by omega)]; exact hS2.out)
       have hB3 : Hid (Below w.heap.size w w3) := Lib.hid (by rw [← hw3]; exact setRow_belowW hB2.out (by have := hSz.out; omega) _)
       have L3 := Lib.hid (hL0.out.below hB3.out)
       have k0 : w3.cell? ⟨S, 0, none⟩ = some (.int .i64 1) := by rw [cell_of_row _ _ 0 _ _ _ hS3.out, ← hsv'.out]; simp [stepV]
       have k34 : w3.cell? ⟨S, 34, none⟩ = some (.int .i64 b) := by rw [cell_of_row _ _ 34 _ _ _ hS3.out, ← hsv'.out]; simp [stepV, u8s, List.getElem?_append_right, hk'.out]
       have k35 : w3.cell? ⟨S, 35, none⟩ = some (.int .i64 h) := by rw [cell_of_row _ _ 35 _ _ _ hS3.out, ← hsv'.out]; simp [stepV, u8s, List.getElem?_append_right, hk'.out]
       have P0 : w3.cell? ⟨S + 1, 0, none⟩ = some (.pointer none) := cell_of_row _ _ 0 _ _ _ hP3.out
       have P1 : w3.cell? ⟨S + 1, 1, none⟩ = some (.pointer none) := cell_of_row _ _ 1 _ _ _ hP3.out
       rw [hw3]
       clear hw3 hone s0 s1 hP2 hS2 L2 hB2)
    | (refine wpList_load_mid_g rfl 51 _ rfl S 2 rfl (u8s kb) _ (fun j v hv => (?_ : w3.cell? ⟨S, 2 + j, none⟩ = some v)) Try.underlying51 rfl (by rw [u8s_length, hk'.out]; exact hi32.out) ?_
       · have hj : j < 32 := by have := (List.getElem?_eq_some_iff.1 hv).1; rw [u8s_length, hk'.out] at this; exact this
         rw [cell_of_row _ _ _ _ _ _ hS3.out, ← hsv'.out]
         simp only [stepV, List.getElem?_toArray, show 2 + j = j + 1 + 1 by omega, List.getElem?_cons_succ]
         rw [List.getElem?_append_left (by rw [u8s_length, hk'.out]; exact hj)]
         exact hv)
    | (go_at_call 24
       refine (add_no (.inl rfl) _).mono ?_
       rintro e w4 ⟨rfl, b4⟩
       have hb4 := Lib.hid b4
       clear b4))
  go_ret
  exact ⟨rfl, ⟨D, L3.out.below hb4.out⟩, (hB3.out.trans (hb4.out.mono hB3.out.size)).mono hBs.out⟩
set_option maxRecDepth 20000 in
set_option maxHeartbeats 4000000 in
theorem done_add1 {w : World} {B PL i : Nat} {D : Nat → Option PD} {d : PD} (hDi : D i = some d) (L : LAt w B PL D) (hi : i < 2) (F : Int) (hF : bits .and .i64 F 1 = (i : Int)) (kb : List Nat) (hk : kb.length = 32) (h256 : ∀ x ∈ kb, x < 256) (b h : Int) :
    Calls Try.prog 35 #[.slice (some ⟨PL, 0, none⟩) 2 2, .agg (stepV 1 F kb b h).toArray] w (DoneP w B PL) := by
  obtain ⟨S, hS⟩ : ∃ S, w.heap.size = S := ⟨_, rfl⟩
  obtain ⟨sv, hsv⟩ : ∃ sv, (stepV 1 F kb b h).toArray = sv := ⟨_, rfl⟩
  obtain ⟨w1, hw1⟩ : ∃ w1, w.alloc (.cells sv 75) = w1 := ⟨_, rfl⟩
  have hw1s : w1.heap.size = S + 1 := by rw [← hw1, ← hS]; simp
  obtain ⟨w2, hw2⟩ : ∃ w2, w1.alloc (.cells #[.pointer none, .pointer none] 57) = w2 := ⟨_, rfl⟩
  have hb1 : Below w.heap.size w w1 := by rw [← hw1]; exact (Below.refl _ _).alloc (Nat.le_refl _) _
  have hb12 : Below w1.heap.size w1 w2 := by rw [← hw2]; exact (Below.refl _ _).alloc (Nat.le_refl _) _
  have hB2 : Hid (Below w.heap.size w w2) := Lib.hid (hb1.trans (hb12.mono hb1.size))
  have hS1 : w1.heap[S]? = some (.cells sv 75 (0, 0)) := by rw [← hw1, ← hS]; exact heap_alloc_new w _
  have hS2 : Hid (w2.heap[S]? = some (.cells sv 75 (0, 0))) := Lib.hid ((hb12.block S (by rw [hw1s]; omega)).trans hS1)
  have hP2 : Hid (w2.heap[S + 1]? = some (.cells #[.pointer none, .pointer none] 57 (0, 0))) := Lib.hid (by rw [← hw2, ← hw1s]; exact heap_alloc_new w1 _)
  have s0 : w1.cell? ⟨S, 0, none⟩ = some (.int .i64 1) := by rw [cell_of_row _ _ 0 _ _ _ hS1, ← hsv]; simp [stepV]
  have s1 : w1.cell? ⟨S, 1, none⟩ = some (.int .i64 F) := by rw [cell_of_row _ _ 1 _ _ _ hS1, ← hsv]; simp [stepV]
  have hr1 := Lib.hid ((L.below hb1).range hi)
  have L2 := Lib.hid (L.below hB2.out)
  have hBs : Hid (B ≤ w.heap.size) := Lib.hid (Nat.le_trans L.off (Nat.le_of_lt L.lt_))
  have hone : Hid ((#[PD.pp (D i), PD.qq (D i)] : Array Value).all (·.oneCell') = true) := Lib.hid (by cases D i <;> simp [PD.pp, PD.qq, Value.oneCell'])
  obtain ⟨pv, hpv⟩ : ∃ pv, PD.pp (D i) = pv := ⟨_, rfl⟩
  obtain ⟨qv, hqv⟩ : ∃ qv, PD.qq (D i) = qv := ⟨_, rfl⟩
  rw [hpv, hqv] at hr1 hone
  have hpv' := Lib.hid hpv
  have hqv' := Lib.hid hqv
  have hi2 : Hid ((Try.prog.info? 57).map (·.size) = some 2) := Lib.hid (by kernel_rfl)
  have hi32 : Hid ((Try.prog.info? 51).map (·.size) = some 32) := Lib.hid (by kernel_rfl)
  have hL0 := Lib.hid L
  have hsv' := Lib.hid hsv
  have hi' := Lib.hid hi
  have hSz := Lib.hid hS
  have hk' := Lib.hid hk
  have h256' := Lib.hid h256
  rw [hsv]
  have hDi' := Lib.hid hDi
  rw [hDi] at hpv hqv
  simp only [PD.pp, PD.qq] at hpv hqv
  subst hpv hqv
  clear L hb1 hb12 hS1 hk h256 hsv hDi
  go_enter Try.func35, Try.ntmps35
  go_wp2_with (first
    | (refine wpList_load_mid_g rfl 57 _ rfl PL (i * 2) rfl [.pointer (some ⟨d.g, 0, none⟩), .pointer (some ⟨d.r, 0, none⟩)] _ hr1.out Try.underlying57 rfl hi2.out ?_; clear hr1)
    | (refine wpList_store_row rfl 57 _ _ rfl (S + 1) #[.pointer (some ⟨d.g, 0, none⟩), .pointer (some ⟨d.r, 0, none⟩)] rfl rfl 57 _ hP2.out hi2.out rfl hone.out ?_
       obtain ⟨w3, hw3⟩ : ∃ w3, w2.setRow (S + 1) #[.pointer (some ⟨d.g, 0, none⟩), .pointer (some ⟨d.r, 0, none⟩)] = w3 := ⟨_, rfl⟩
       have hP3 : Hid (w3.heap[S + 1]? = some (.cells #[.pointer (some ⟨d.g, 0, none⟩), .pointer (some ⟨d.r, 0, none⟩)] 57 (0, 0))) := Lib.hid (by rw [← hw3]; exact setRow_heap w2 (S + 1) _ _ _ _ hP2.out)
       have hS3 : Hid (w3.heap[S]? = some (.cells sv 75 (0, 0))) := Lib.hid (by rw [← hw3, setRow_other _ _ _ _ (by omega)]; exact hS2.out)
       have hB3 : Hid (Below w.heap.size w w3) := Lib.hid (by rw [← hw3]; exact setRow_belowW hB2.out (by have := hSz.out; omega) _)
       have L3 := Lib.hid (hL0.out.below hB3.out)
       have k0 : w3.cell? ⟨S, 0, none⟩ = some (.int .i64 1) := by rw [cell_of_row _ _ 0 _ _ _ hS3.out, ← hsv'.out]; simp [stepV]
       have k34 : w3.cell? ⟨S, 34, none⟩ = some (.int .i64 b) := by rw [cell_of_row _ _ 34 _ _ _ hS3.out, ← hsv'.out]; simp [stepV, u8s, List.getElem?_append_right, hk'.out]
       have k35 : w3.cell? ⟨S, 35, none⟩ = some (.int .i64 h) := by rw [cell_of_row _ _ 35 _ _ _ hS3.out, ← hsv'.out]; simp [stepV, u8s, List.getElem?_append_right, hk'.out]
       have P0 : w3.cell? ⟨S + 1, 0, none⟩ = some (.pointer (some ⟨d.g, 0, none⟩)) := cell_of_row _ _ 0 _ _ _ hP3.out
       have P1 : w3.cell? ⟨S + 1, 1, none⟩ = some (.pointer (some ⟨d.r, 0, none⟩)) := cell_of_row _ _ 1 _ _ _ hP3.out
       rw [hw3]
       clear hw3 hone s0 s1 hP2 hS2 L2 hB2))
  obtain ⟨kv, hkv⟩ : ∃ kv, u8s kb = kv := ⟨_, rfl⟩
  have he := Lib.hid hkv
  have hka : Hid ((u8s kb).toArray = kv.toArray) := Lib.hid (by rw [hkv])
  have hl32 : Hid (kv.length = 32) := Lib.hid (by rw [← hkv, u8s_length]; exact hk'.out)
  have hkr : Hid (w3.rangeAt S 2 kv) := Lib.hid fun j v hv => by
    have hj : j < 32 := by have := (List.getElem?_eq_some_iff.1 hv).1; rw [hl32.out] at this; exact this
    rw [cell_of_row _ _ _ _ _ _ hS3.out, ← hsv'.out]
    rw [← hkv] at hv
    simp only [stepV, List.getElem?_toArray, show 2 + j = j + 1 + 1 by omega, List.getElem?_cons_succ]
    rw [List.getElem?_append_left (by rw [u8s_length, hk'.out]; exact hj)]
    exact hv
  clear hkv
  obtain ⟨wr0, hwr0⟩ : ∃ wr0, World.drew w3 = wr0 := ⟨_, rfl⟩
  have hbr : Hid (Below w3.heap.size w3 wr0) := Lib.hid (by rw [← hwr0]; exact below_drewN (Below.refl _ _) 1)
  have Lr := Lib.hid (L3.out.below hbr.out)
  have Br := Lib.hid (hB3.out.trans (hbr.out.mono hB3.out.size))
  have hpr : Hid (PairAt wr0 B (some d)) := Lib.hid (by have := Lr.out.pair hi'.out; rw [hDi'.out] at this; exact this)
  have hne : Hid (d.A ≠ d.b ∧ d.A ≠ d.r ∧ d.g ≠ d.b ∧ d.g ≠ d.A) := Lib.hid ⟨typ_ne hpr.out.tA hpr.out.tb (by decide), typ_ne hpr.out.tA hpr.out.tr (by decide), typ_ne hpr.out.tg hpr.out.tb (by decide), typ_ne hpr.out.tg hpr.out.tA (by decide)⟩
  have hlt : Hid (d.A < S ∧ d.b < S ∧ d.r < S ∧ S + 1 < wr0.heap.size) := Lib.hid (by
    have l := (show PairAt w B (some d) from by have := hL0.out.pair hi'.out; rw [hDi'.out] at this; exact this).lt
    have l2 := lt_of_block hP3.out
    have l3 := hbr.out.size
    have := hSz.out
    omega)
  have hd : Hid (wr0.cell? ⟨S + 1, 0, none⟩ = some (.pointer (some ⟨d.g, 0, none⟩)) ∧ wr0.cell? ⟨S + 1, 1, none⟩ = some (.pointer (some ⟨d.r, 0, none⟩)) ∧ wr0.rangeAt S 2 kv) := Lib.hid (by rw [← hwr0]; exact ⟨P0, P1, hkr.out⟩)
  have hadd := Lib.hid (add_any hpr.out.1 kb hk'.out h256'.out)
  rw [hka.out] at hadd
  refine wp_region_held (S := fun W => W.cell? ⟨S + 1, 0, none⟩ = some (.pointer (some ⟨d.g, 0, none⟩)) ∧ W.cell? ⟨S + 1, 1, none⟩ = some (.pointer (some ⟨d.r, 0, none⟩)) ∧ W.rangeAt S 2 kv) (by kernel_rfl) ?_
  change wpAnyH _ _ _ _ _ _ _ _ (World.drew _)
  rw [hwr0]
  clear hwr0
  refine tk (i := 0) (d := 33) (v := .pointer (some ⟨S + 1, 0, none⟩)) rfl rfl (Or.inl ⟨by rfl, by intro W hW; clear hW; go_simp⟩) hd.out ?_
  simp only [List.setIfInBounds_toArray, List.set_cons_zero, List.set_cons_succ]
  refine tk (i := 1) (d := 34) (v := .pointer (some ⟨d.g, 0, none⟩)) rfl rfl (Or.inl ⟨by rfl, by intro W hW; have q0 := hW.1; clear hW; go_simp⟩) hd.out ?_
  simp only [List.setIfInBounds_toArray, List.set_cons_zero, List.set_cons_succ]
  refine tk (i := 2) (d := 35) (v := .pointer (some ⟨S, 2, none⟩)) rfl rfl (Or.inl ⟨by rfl, by intro W hW; clear hW; go_simp⟩) hd.out ?_
  simp only [List.setIfInBounds_toArray, List.set_cons_zero, List.set_cons_succ]
  refine tk (i := 3) (d := 36) (v := .agg kv.toArray) rfl rfl (yieldsIf_load_mid rfl 51 _ rfl S 2 rfl kv _ (fun W hW => hW.2.2) Try.underlying51 rfl (by rw [hl32.out]; exact hi32.out)) hd.out ?_
  simp only [List.setIfInBounds_toArray, List.set_cons_zero, List.set_cons_succ]
  refine tk (i := 5) (d := 38) (v := .pointer (some ⟨S + 1, 1, none⟩)) rfl rfl (Or.inl ⟨by rfl, by intro W hW; clear hW; go_simp⟩) hd.out ?_
  simp only [List.setIfInBounds_toArray, List.set_cons_zero, List.set_cons_succ]
  refine tk (i := 6) (d := 39) (v := .pointer (some ⟨d.r, 0, none⟩)) rfl rfl (Or.inl ⟨by rfl, by intro W hW; have q1 := hW.2.1; clear hW; go_simp⟩) hd.out ?_
  simp only [List.setIfInBounds_toArray, List.set_cons_zero, List.set_cons_succ]
  refine tk (i := 7) (d := 40) (v := .pointer (some ⟨S, 2, none⟩)) rfl rfl (Or.inl ⟨by rfl, by intro W hW; clear hW; go_simp⟩) hd.out ?_
  simp only [List.setIfInBounds_toArray, List.set_cons_zero, List.set_cons_succ]
  refine tk (i := 8) (d := 41) (v := .agg kv.toArray) rfl rfl (yieldsIf_load_mid rfl 51 _ rfl S 2 rfl kv _ (fun W hW => hW.2.2) Try.underlying51 rfl (by rw [hl32.out]; exact hi32.out)) hd.out ?_
  simp only [List.setIfInBounds_toArray, List.set_cons_zero, List.set_cons_succ]
  refine wpAnyH_ready (rs := [4]) (by kernel_rfl) (by simp) ?_
  refine AllReadyH.cons rfl (fun K hK => ?_) AllReadyH.nil
  go_simp
  refine hadd.out.mono ?_
  unfold AddP
  rintro e w5 ⟨rfl, f5, r5⟩
  have f5' := Lib.hid f5
  have r5' := Lib.hid r5
  have R5 := Lib.hid (hpr.out.2.fr r5 (fun q => hne.out.2.1 (by rw [← q])) (fun q => hne.out.1 (by rw [← q])))
  have hs5 : Hid (w5.cell? ⟨S + 1, 0, none⟩ = some (.pointer (some ⟨d.g, 0, none⟩)) ∧ w5.cell? ⟨S + 1, 1, none⟩ = some (.pointer (some ⟨d.r, 0, none⟩)) ∧ w5.rangeAt S 2 kv) := Lib.hid ⟨(World.cell?_of_block (a := ⟨S + 1, 0, none⟩) (r5.block (S + 1) hlt.out.2.2.2 (fun q => by have := hlt.out; omega))).trans hd.out.1, (World.cell?_of_block (a := ⟨S + 1, 1, none⟩) (r5.block (S + 1) hlt.out.2.2.2 (fun q => by have := hlt.out; omega))).trans hd.out.2.1, fun j v hv => (World.cell?_of_block (a := ⟨S, 2 + j, none⟩) (r5.block S (by have := hlt.out; show S < (wr0).heap.size; omega) (fun q => by have := hlt.out; have q : S = d.A := q; omega))).trans (hd.out.2.2 j v hv)⟩
  have hrad := Lib.hid (radd_any R5.out kb hk'.out h256'.out kv.toArray hka.out)
  clear f5 r5
  refine hK.out _ _ hs5.out (fun _ => ?_)
  clear hK K
  refine wpAnyH_ready (rs := [9]) (by kernel_rfl) (by simp) ?_
  refine AllReadyH.cons rfl (fun K hK => ?_) AllReadyH.nil
  go_simp
  refine hrad.out.mono ?_
  unfold RAddP
  rintro e w6 ⟨rfl, f6, r6⟩
  have f6' := Lib.hid f6
  have r6' := Lib.hid r6
  have hs6 : Hid (w6.cell? ⟨S + 1, 0, none⟩ = some (.pointer (some ⟨d.g, 0, none⟩)) ∧ w6.cell? ⟨S + 1, 1, none⟩ = some (.pointer (some ⟨d.r, 0, none⟩)) ∧ w6.rangeAt S 2 kv) := Lib.hid ⟨(World.cell?_of_block (a := ⟨S + 1, 0, none⟩) (r6.block (S + 1) (Nat.lt_of_lt_of_le hlt.out.2.2.2 r5'.out.size) (fun q => by have := hlt.out; omega))).trans hs5.out.1, (World.cell?_of_block (a := ⟨S + 1, 1, none⟩) (r6.block (S + 1) (Nat.lt_of_lt_of_le hlt.out.2.2.2 r5'.out.size) (fun q => by have := hlt.out; omega))).trans hs5.out.2.1, fun j v hv => (World.cell?_of_block (a := ⟨S, 2 + j, none⟩) (r6.block S (Nat.lt_of_lt_of_le (by have := hlt.out; show S < (wr0).heap.size; omega) r5'.out.size) (fun q => by have := hlt.out; have q : S = d.b := q; omega))).trans (hs5.out.2.2 j v hv)⟩
  clear f6 r6
  refine hK.out _ _ hs6.out (fun _ => ?_)
  clear hK K
  refine tk (i := 10) (d := 43) (v := .bool true) rfl rfl (Or.inl ⟨by rfl, by intro W hW; clear hW; go_simp⟩) hs6.out ?_
  simp only [List.setIfInBounds_toArray, List.set_cons_zero, List.set_cons_succ]
  refine tk (i := 11) (d := 4) (v := .bool true) rfl rfl (Or.inl ⟨by rfl, by intro W hW; clear hW; go_simp⟩) hs6.out ?_
  simp only [List.setIfInBounds_toArray, List.set_cons_zero, List.set_cons_succ]
  refine wpAnyH_done (by kernel_rfl) ?_ _
  go_wp2_with fail
  go_ret
  have hff := f5'.out.fr r6'.out (fun q => hne.out.2.2.1 (by rw [← q])) (fun k hk q => by injection hk with hk; exact hne.out.1 (hk.trans q))
  have hall : Fr (Mut (D i)) wr0 w6 := ((r5'.out.mono (D' := fun k => k = d.A ∨ k = d.b) (fun _ _ q => .inl q)).trans r6'.out (fun _ _ q => .inr q)).mono (fun k _ q => by rw [hDi'.out]; exact q.elim (fun q => .inl q) (fun q => .inr (.inl q)))
  have LL := Lr.out.step hi'.out (d' := some ⟨d.g, d.A, d.c, d.r, d.b, d.cb, (addQ (k1Q kb) (k2Q kb) (64 * d.l.length) d.l d.h).1, d.h⟩) ⟨hff, f6'.out⟩ (by rw [hDi'.out]; rfl) (by rw [hDi'.out]; rfl) hall (by rw [hDi'.out]; exact ⟨.inl rfl, .inl rfl, .inl rfl⟩)
  exact ⟨rfl, ⟨_, LL⟩, (Br.out.mono hBs.out).trans (Lr.out.below_of hi'.out hall)⟩
set_option maxRecDepth 20000 in
set_option maxHeartbeats 4000000 in
theorem done_has0 {w : World} {B PL i : Nat} {D : Nat → Option PD} (hDi : D i = none) (L : LAt w B PL D) (hi : i < 2) (F : Int) (hF : bits .and .i64 F 1 = (i : Int)) (kb : List Nat) (hk : kb.length = 32) (h256 : ∀ x ∈ kb, x < 256) (b h : Int) :
    Calls Try.prog 35 #[.slice (some ⟨PL, 0, none⟩) 2 2, .agg (stepV 2 F kb b h).toArray] w (DoneP w B PL) := by
  obtain ⟨S, hS⟩ : ∃ S, w.heap.size = S := ⟨_, rfl⟩
  obtain ⟨sv, hsv⟩ : ∃ sv, (stepV 2 F kb b h).toArray = sv := ⟨_, rfl⟩
  obtain ⟨w1, hw1⟩ : ∃ w1, w.alloc (.cells sv 75) = w1 := ⟨_, rfl⟩
  have hw1s : w1.heap.size = S + 1 := by rw [← hw1, ← hS]; simp
  obtain ⟨w2, hw2⟩ : ∃ w2, w1.alloc (.cells #[.pointer none, .pointer none] 57) = w2 := ⟨_, rfl⟩
  have hb1 : Below w.heap.size w w1 := by rw [← hw1]; exact (Below.refl _ _).alloc (Nat.le_refl _) _
  have hb12 : Below w1.heap.size w1 w2 := by rw [← hw2]; exact (Below.refl _ _).alloc (Nat.le_refl _) _
  have hB2 : Hid (Below w.heap.size w w2) := Lib.hid (hb1.trans (hb12.mono hb1.size))
  have hS1 : w1.heap[S]? = some (.cells sv 75 (0, 0)) := by rw [← hw1, ← hS]; exact heap_alloc_new w _
  have hS2 : Hid (w2.heap[S]? = some (.cells sv 75 (0, 0))) := Lib.hid ((hb12.block S (by rw [hw1s]; omega)).trans hS1)
  have hP2 : Hid (w2.heap[S + 1]? = some (.cells #[.pointer none, .pointer none] 57 (0, 0))) := Lib.hid (by rw [← hw2, ← hw1s]; exact heap_alloc_new w1 _)
  have s0 : w1.cell? ⟨S, 0, none⟩ = some (.int .i64 2) := by rw [cell_of_row _ _ 0 _ _ _ hS1, ← hsv]; simp [stepV]
  have s1 : w1.cell? ⟨S, 1, none⟩ = some (.int .i64 F) := by rw [cell_of_row _ _ 1 _ _ _ hS1, ← hsv]; simp [stepV]
  have hr1 := Lib.hid ((L.below hb1).range hi)
  have L2 := Lib.hid (L.below hB2.out)
  have hBs : Hid (B ≤ w.heap.size) := Lib.hid (Nat.le_trans L.off (Nat.le_of_lt L.lt_))
  have hone : Hid ((#[PD.pp (D i), PD.qq (D i)] : Array Value).all (·.oneCell') = true) := Lib.hid (by cases D i <;> simp [PD.pp, PD.qq, Value.oneCell'])
  obtain ⟨pv, hpv⟩ : ∃ pv, PD.pp (D i) = pv := ⟨_, rfl⟩
  obtain ⟨qv, hqv⟩ : ∃ qv, PD.qq (D i) = qv := ⟨_, rfl⟩
  rw [hpv, hqv] at hr1 hone
  have hpv' := Lib.hid hpv
  have hqv' := Lib.hid hqv
  have hi2 : Hid ((Try.prog.info? 57).map (·.size) = some 2) := Lib.hid (by kernel_rfl)
  have hi32 : Hid ((Try.prog.info? 51).map (·.size) = some 32) := Lib.hid (by kernel_rfl)
  have hL0 := Lib.hid L
  have hsv' := Lib.hid hsv
  have hi' := Lib.hid hi
  have hSz := Lib.hid hS
  have hk' := Lib.hid hk
  have h256' := Lib.hid h256
  rw [hsv]
  have hDi' := Lib.hid hDi
  rw [hDi] at hpv hqv
  simp only [PD.pp, PD.qq] at hpv hqv
  subst hpv hqv
  clear L hb1 hb12 hS1 hk h256 hsv hDi
  go_enter Try.func35, Try.ntmps35
  go_wp2_with (first
    | (refine wpList_load_mid_g rfl 57 _ rfl PL (i * 2) rfl [.pointer none, .pointer none] _ hr1.out Try.underlying57 rfl hi2.out ?_; clear hr1)
    | (refine wpList_store_row rfl 57 _ _ rfl (S + 1) #[.pointer none, .pointer none] rfl rfl 57 _ hP2.out hi2.out rfl hone.out ?_
       obtain ⟨w3, hw3⟩ : ∃ w3, w2.setRow (S + 1) #[.pointer none, .pointer none] = w3 := ⟨_, rfl⟩
       have hP3 : Hid (w3.heap[S + 1]? = some (.cells #[.pointer none, .pointer none] 57 (0, 0))) := Lib.hid (by rw [← hw3]; exact setRow_heap w2 (S + 1) _ _ _ _ hP2.out)
       have hS3 : Hid (w3.heap[S]? = some (.cells sv 75 (0, 0))) := Lib.hid (by rw [← hw3, setRow_other _ _ _ _ (by omega)]; exact hS2.out)
       have hB3 : Hid (Below w.heap.size w w3) := Lib.hid (by rw [← hw3]; exact setRow_belowW hB2.out (by have := hSz.out; omega) _)
       have L3 := Lib.hid (hL0.out.below hB3.out)
       have k0 : w3.cell? ⟨S, 0, none⟩ = some (.int .i64 2) := by rw [cell_of_row _ _ 0 _ _ _ hS3.out, ← hsv'.out]; simp [stepV]
       have k34 : w3.cell? ⟨S, 34, none⟩ = some (.int .i64 b) := by rw [cell_of_row _ _ 34 _ _ _ hS3.out, ← hsv'.out]; simp [stepV, u8s, List.getElem?_append_right, hk'.out]
       have k35 : w3.cell? ⟨S, 35, none⟩ = some (.int .i64 h) := by rw [cell_of_row _ _ 35 _ _ _ hS3.out, ← hsv'.out]; simp [stepV, u8s, List.getElem?_append_right, hk'.out]
       have P0 : w3.cell? ⟨S + 1, 0, none⟩ = some (.pointer none) := cell_of_row _ _ 0 _ _ _ hP3.out
       have P1 : w3.cell? ⟨S + 1, 1, none⟩ = some (.pointer none) := cell_of_row _ _ 1 _ _ _ hP3.out
       rw [hw3]
       clear hw3 hone s0 s1 hP2 hS2 L2 hB2)
    | (refine wpList_load_mid_g rfl 51 _ rfl S 2 rfl (u8s kb) _ (fun j v hv => (?_ : w3.cell? ⟨S, 2 + j, none⟩ = some v)) Try.underlying51 rfl (by rw [u8s_length, hk'.out]; exact hi32.out) ?_
       · have hj : j < 32 := by have := (List.getElem?_eq_some_iff.1 hv).1; rw [u8s_length, hk'.out] at this; exact this
         rw [cell_of_row _ _ _ _ _ _ hS3.out, ← hsv'.out]
         simp only [stepV, List.getElem?_toArray, show 2 + j = j + 1 + 1 by omega, List.getElem?_cons_succ]
         rw [List.getElem?_append_left (by rw [u8s_length, hk'.out]; exact hj)]
         exact hv)
    | (go_at_call 26
       refine (has_no (.inl rfl) _).mono ?_
       rintro e w4 ⟨rfl, b4⟩
       have hb4 := Lib.hid b4
       clear b4))
  go_ret
  exact ⟨rfl, ⟨D, L3.out.below hb4.out⟩, (hB3.out.trans (hb4.out.mono hB3.out.size)).mono hBs.out⟩
set_option maxRecDepth 20000 in
set_option maxHeartbeats 4000000 in
theorem done_has1 {w : World} {B PL i : Nat} {D : Nat → Option PD} {d : PD} (hDi : D i = some d) (L : LAt w B PL D) (hi : i < 2) (F : Int) (hF : bits .and .i64 F 1 = (i : Int)) (kb : List Nat) (hk : kb.length = 32) (h256 : ∀ x ∈ kb, x < 256) (b h : Int) :
    Calls Try.prog 35 #[.slice (some ⟨PL, 0, none⟩) 2 2, .agg (stepV 2 F kb b h).toArray] w (DoneP w B PL) := by
  obtain ⟨S, hS⟩ : ∃ S, w.heap.size = S := ⟨_, rfl⟩
  obtain ⟨sv, hsv⟩ : ∃ sv, (stepV 2 F kb b h).toArray = sv := ⟨_, rfl⟩
  obtain ⟨w1, hw1⟩ : ∃ w1, w.alloc (.cells sv 75) = w1 := ⟨_, rfl⟩
  have hw1s : w1.heap.size = S + 1 := by rw [← hw1, ← hS]; simp
  obtain ⟨w2, hw2⟩ : ∃ w2, w1.alloc (.cells #[.pointer none, .pointer none] 57) = w2 := ⟨_, rfl⟩
  have hb1 : Below w.heap.size w w1 := by rw [← hw1]; exact (Below.refl _ _).alloc (Nat.le_refl _) _
  have hb12 : Below w1.heap.size w1 w2 := by rw [← hw2]; exact (Below.refl _ _).alloc (Nat.le_refl _) _
  have hB2 : Hid (Below w.heap.size w w2) := Lib.hid (hb1.trans (hb12.mono hb1.size))
  have hS1 : w1.heap[S]? = some (.cells sv 75 (0, 0)) := by rw [← hw1, ← hS]; exact heap_alloc_new w _
  have hS2 : Hid (w2.heap[S]? = some (.cells sv 75 (0, 0))) := Lib.hid ((hb12.block S (by rw [hw1s]; omega)).trans hS1)
  have hP2 : Hid (w2.heap[S + 1]? = some (.cells #[.pointer none, .pointer none] 57 (0, 0))) := Lib.hid (by rw [← hw2, ← hw1s]; exact heap_alloc_new w1 _)
  have s0 : w1.cell? ⟨S, 0, none⟩ = some (.int .i64 2) := by rw [cell_of_row _ _ 0 _ _ _ hS1, ← hsv]; simp [stepV]
  have s1 : w1.cell? ⟨S, 1, none⟩ = some (.int .i64 F) := by rw [cell_of_row _ _ 1 _ _ _ hS1, ← hsv]; simp [stepV]
  have hr1 := Lib.hid ((L.below hb1).range hi)
  have L2 := Lib.hid (L.below hB2.out)
  have hBs : Hid (B ≤ w.heap.size) := Lib.hid (Nat.le_trans L.off (Nat.le_of_lt L.lt_))
  have hone : Hid ((#[PD.pp (D i), PD.qq (D i)] : Array Value).all (·.oneCell') = true) := Lib.hid (by cases D i <;> simp [PD.pp, PD.qq, Value.oneCell'])
  obtain ⟨pv, hpv⟩ : ∃ pv, PD.pp (D i) = pv := ⟨_, rfl⟩
  obtain ⟨qv, hqv⟩ : ∃ qv, PD.qq (D i) = qv := ⟨_, rfl⟩
  rw [hpv, hqv] at hr1 hone
  have hpv' := Lib.hid hpv
  have hqv' := Lib.hid hqv
  have hi2 : Hid ((Try.prog.info? 57).map (·.size) = some 2) := Lib.hid (by kernel_rfl)
  have hi32 : Hid ((Try.prog.info? 51).map (·.size) = some 32) := Lib.hid (by kernel_rfl)
  have hL0 := Lib.hid L
  have hsv' := Lib.hid hsv
  have hi' := Lib.hid hi
  have hSz := Lib.hid hS
  have hk' := Lib.hid hk
  have h256' := Lib.hid h256
  rw [hsv]
  have hDi' := Lib.hid hDi
  rw [hDi] at hpv hqv
  simp only [PD.pp, PD.qq] at hpv hqv
  subst hpv hqv
  clear L hb1 hb12 hS1 hk h256 hsv hDi
  go_enter Try.func35, Try.ntmps35
  go_wp2_with (first
    | (refine wpList_load_mid_g rfl 57 _ rfl PL (i * 2) rfl [.pointer (some ⟨d.g, 0, none⟩), .pointer (some ⟨d.r, 0, none⟩)] _ hr1.out Try.underlying57 rfl hi2.out ?_; clear hr1)
    | (refine wpList_store_row rfl 57 _ _ rfl (S + 1) #[.pointer (some ⟨d.g, 0, none⟩), .pointer (some ⟨d.r, 0, none⟩)] rfl rfl 57 _ hP2.out hi2.out rfl hone.out ?_
       obtain ⟨w3, hw3⟩ : ∃ w3, w2.setRow (S + 1) #[.pointer (some ⟨d.g, 0, none⟩), .pointer (some ⟨d.r, 0, none⟩)] = w3 := ⟨_, rfl⟩
       have hP3 : Hid (w3.heap[S + 1]? = some (.cells #[.pointer (some ⟨d.g, 0, none⟩), .pointer (some ⟨d.r, 0, none⟩)] 57 (0, 0))) := Lib.hid (by rw [← hw3]; exact setRow_heap w2 (S + 1) _ _ _ _ hP2.out)
       have hS3 : Hid (w3.heap[S]? = some (.cells sv 75 (0, 0))) := Lib.hid (by rw [← hw3, setRow_other _ _ _ _ (by omega)]; exact hS2.out)
       have hB3 : Hid (Below w.heap.size w w3) := Lib.hid (by rw [← hw3]; exact setRow_belowW hB2.out (by have := hSz.out; omega) _)
       have L3 := Lib.hid (hL0.out.below hB3.out)
       have k0 : w3.cell? ⟨S, 0, none⟩ = some (.int .i64 2) := by rw [cell_of_row _ _ 0 _ _ _ hS3.out, ← hsv'.out]; simp [stepV]
       have k34 : w3.cell? ⟨S, 34, none⟩ = some (.int .i64 b) := by rw [cell_of_row _ _ 34 _ _ _ hS3.out, ← hsv'.out]; simp [stepV, u8s, List.getElem?_append_right, hk'.out]
       have k35 : w3.cell? ⟨S, 35, none⟩ = some (.int .i64 h) := by rw [cell_of_row _ _ 35 _ _ _ hS3.out, ← hsv'.out]; simp [stepV, u8s, List.getElem?_append_right, hk'.out]
       have P0 : w3.cell? ⟨S + 1, 0, none⟩ = some (.pointer (some ⟨d.g, 0, none⟩)) := cell_of_row _ _ 0 _ _ _ hP3.out
       have P1 : w3.cell? ⟨S + 1, 1, none⟩ = some (.pointer (some ⟨d.r, 0, none⟩)) := cell_of_row _ _ 1 _ _ _ hP3.out
       rw [hw3]
       clear hw3 hone s0 s1 hP2 hS2 L2 hB2))
  obtain ⟨kv, hkv⟩ : ∃ kv, u8s kb = kv := ⟨_, rfl⟩
  have he := Lib.hid hkv
  have hka : Hid ((u8s kb).toArray = kv.toArray) := Lib.hid (by rw [hkv])
  have hl32 : Hid (kv.length = 32) := Lib.hid (by rw [← hkv, u8s_length]; exact hk'.out)
  have hkr : Hid (w3.rangeAt S 2 kv) := Lib.hid fun j v hv => by
    have hj : j < 32 := by have := (List.getElem?_eq_some_iff.1 hv).1; rw [hl32.out] at this; exact this
    rw [cell_of_row _ _ _ _ _ _ hS3.out, ← hsv'.out]
    rw [← hkv] at hv
    simp only [stepV, List.getElem?_toArray, show 2 + j = j + 1 + 1 by omega, List.getElem?_cons_succ]
    rw [List.getElem?_append_left (by rw [u8s_length, hk'.out]; exact hj)]
    exact hv
  clear hkv
  obtain ⟨wr0, hwr0⟩ : ∃ wr0, World.drew w3 = wr0 := ⟨_, rfl⟩
  have hbr : Hid (Below w3.heap.size w3 wr0) := Lib.hid (by rw [← hwr0]; exact below_drewN (Below.refl _ _) 1)
  have Lr := Lib.hid (L3.out.below hbr.out)
  have Br := Lib.hid (hB3.out.trans (hbr.out.mono hB3.out.size))
  have hpr : Hid (PairAt wr0 B (some d)) := Lib.hid (by have := Lr.out.pair hi'.out; rw [hDi'.out] at this; exact this)
  have hne : Hid (d.A ≠ d.b ∧ d.A ≠ d.r ∧ d.g ≠ d.b ∧ d.g ≠ d.A) := Lib.hid ⟨typ_ne hpr.out.tA hpr.out.tb (by decide), typ_ne hpr.out.tA hpr.out.tr (by decide), typ_ne hpr.out.tg hpr.out.tb (by decide), typ_ne hpr.out.tg hpr.out.tA (by decide)⟩
  have hlt : Hid (d.A < S ∧ d.b < S ∧ d.r < S ∧ S + 1 < wr0.heap.size) := Lib.hid (by
    have l := (show PairAt w B (some d) from by have := hL0.out.pair hi'.out; rw [hDi'.out] at this; exact this).lt
    have l2 := lt_of_block hP3.out
    have l3 := hbr.out.size
    have := hSz.out
    omega)
  have hd : Hid (wr0.cell? ⟨S + 1, 0, none⟩ = some (.pointer (some ⟨d.g, 0, none⟩)) ∧ wr0.cell? ⟨S + 1, 1, none⟩ = some (.pointer (some ⟨d.r, 0, none⟩)) ∧ wr0.rangeAt S 2 kv) := Lib.hid (by rw [← hwr0]; exact ⟨P0, P1, hkr.out⟩)
  have hadd := Lib.hid (has_any hpr.out.1 kb hk'.out h256'.out)
  rw [hka.out] at hadd
  refine wp_region_held (S := fun W => W.cell? ⟨S + 1, 0, none⟩ = some (.pointer (some ⟨d.g, 0, none⟩)) ∧ W.cell? ⟨S + 1, 1, none⟩ = some (.pointer (some ⟨d.r, 0, none⟩)) ∧ W.rangeAt S 2 kv) (by kernel_rfl) ?_
  change wpAnyH _ _ _ _ _ _ _ _ (World.drew _)
  rw [hwr0]
  clear hwr0
  refine tk (i := 0) (d := 55) (v := .pointer (some ⟨S + 1, 0, none⟩)) rfl rfl (Or.inl ⟨by rfl, by intro W hW; clear hW; go_simp⟩) hd.out ?_
  simp only [List.setIfInBounds_toArray, List.set_cons_zero, List.set_cons_succ]
  refine tk (i := 1) (d := 56) (v := .pointer (some ⟨d.g, 0, none⟩)) rfl rfl (Or.inl ⟨by rfl, by intro W hW; have q0 := hW.1; clear hW; go_simp⟩) hd.out ?_
  simp only [List.setIfInBounds_toArray, List.set_cons_zero, List.set_cons_succ]
  refine tk (i := 2) (d := 57) (v := .pointer (some ⟨S, 2, none⟩)) rfl rfl (Or.inl ⟨by rfl, by intro W hW; clear hW; go_simp⟩) hd.out ?_
  simp only [List.setIfInBounds_toArray, List.set_cons_zero, List.set_cons_succ]
  refine tk (i := 3) (d := 58) (v := .agg kv.toArray) rfl rfl (yieldsIf_load_mid rfl 51 _ rfl S 2 rfl kv _ (fun W hW => hW.2.2) Try.underlying51 rfl (by rw [hl32.out]; exact hi32.out)) hd.out ?_
  simp only [List.setIfInBounds_toArray, List.set_cons_zero, List.set_cons_succ]
  refine tk (i := 5) (d := 60) (v := .pointer (some ⟨S + 1, 1, none⟩)) rfl rfl (Or.inl ⟨by rfl, by intro W hW; clear hW; go_simp⟩) hd.out ?_
  simp only [List.setIfInBounds_toArray, List.set_cons_zero, List.set_cons_succ]
  refine tk (i := 6) (d := 61) (v := .pointer (some ⟨d.r, 0, none⟩)) rfl rfl (Or.inl ⟨by rfl, by intro W hW; have q1 := hW.2.1; clear hW; go_simp⟩) hd.out ?_
  simp only [List.setIfInBounds_toArray, List.set_cons_zero, List.set_cons_succ]
  refine tk (i := 7) (d := 62) (v := .pointer (some ⟨S, 2, none⟩)) rfl rfl (Or.inl ⟨by rfl, by intro W hW; clear hW; go_simp⟩) hd.out ?_
  simp only [List.setIfInBounds_toArray, List.set_cons_zero, List.set_cons_succ]
  refine tk (i := 8) (d := 63) (v := .agg kv.toArray) rfl rfl (yieldsIf_load_mid rfl 51 _ rfl S 2 rfl kv _ (fun W hW => hW.2.2) Try.underlying51 rfl (by rw [hl32.out]; exact hi32.out)) hd.out ?_
  simp only [List.setIfInBounds_toArray, List.set_cons_zero, List.set_cons_succ]
  refine wpAnyH_ready (rs := [4]) (by kernel_rfl) (by simp) ?_
  refine AllReadyH.cons rfl (fun K hK => ?_) AllReadyH.nil
  go_simp
  refine hadd.out.mono ?_
  unfold HasP
  rintro e w5 ⟨rfl, _, r5⟩
  have b5 := r5.none_below
  have hb5 := Lib.hid b5
  have R5 := Lib.hid (hpr.out.2.below b5)
  have hs5 : Hid (w5.cell? ⟨S + 1, 0, none⟩ = some (.pointer (some ⟨d.g, 0, none⟩)) ∧ w5.cell? ⟨S + 1, 1, none⟩ = some (.pointer (some ⟨d.r, 0, none⟩)) ∧ w5.rangeAt S 2 kv) := Lib.hid ⟨(b5.cell (p := ⟨S + 1, 0, none⟩) hlt.out.2.2.2).trans hd.out.1, (b5.cell (p := ⟨S + 1, 1, none⟩) hlt.out.2.2.2).trans hd.out.2.1, fun j v hv => (b5.cell (p := ⟨S, 2 + j, none⟩) (by have := hlt.out; show S < (wr0).heap.size; omega)).trans (hd.out.2.2 j v hv)⟩
  have hrad := Lib.hid (rhas_any R5.out kb hk'.out h256'.out kv.toArray hka.out)
  clear r5 b5
  refine hK.out _ _ hs5.out (fun _ => ?_)
  clear hK K
  refine wpAnyH_ready (rs := [9]) (by kernel_rfl) (by simp) ?_
  refine AllReadyH.cons rfl (fun K hK => ?_) AllReadyH.nil
  go_simp
  refine hrad.out.mono ?_
  unfold RHasP
  rintro e w6 ⟨rfl, b6⟩
  have hb6 := Lib.hid b6
  have hs6 : Hid (w6.cell? ⟨S + 1, 0, none⟩ = some (.pointer (some ⟨d.g, 0, none⟩)) ∧ w6.cell? ⟨S + 1, 1, none⟩ = some (.pointer (some ⟨d.r, 0, none⟩)) ∧ w6.rangeAt S 2 kv) := Lib.hid ⟨(b6.cell (p := ⟨S + 1, 0, none⟩) (Nat.lt_of_lt_of_le hlt.out.2.2.2 hb5.out.size)).trans hs5.out.1, (b6.cell (p := ⟨S + 1, 1, none⟩) (Nat.lt_of_lt_of_le hlt.out.2.2.2 hb5.out.size)).trans hs5.out.2.1, fun j v hv => (b6.cell (p := ⟨S, 2 + j, none⟩) (Nat.lt_of_lt_of_le (by have := hlt.out; show S < (wr0).heap.size; omega) hb5.out.size)).trans (hs5.out.2.2 j v hv)⟩
  clear b6
  refine hK.out _ _ hs6.out (fun _ => ?_)
  clear hK K
  refine tk (i := 10) (d := 65) (v := .bool true) rfl rfl (Or.inl ⟨by rfl, by intro W hW; clear hW; go_simp⟩) hs6.out ?_
  simp only [List.setIfInBounds_toArray, List.set_cons_zero, List.set_cons_succ]
  refine tk (i := 11) (d := 4) (v := .bool true) rfl rfl (Or.inl ⟨by rfl, by intro W hW; clear hW; go_simp⟩) hs6.out ?_
  simp only [List.setIfInBounds_toArray, List.set_cons_zero, List.set_cons_succ]
  refine wpAnyH_done (by kernel_rfl) ?_ _
  go_wp2_with fail
  go_ret
  have hb := hb5.out.trans (hb6.out.mono hb5.out.size)
  exact ⟨rfl, ⟨D, Lr.out.below hb⟩, (Br.out.trans (hb.mono Br.out.size)).mono hBs.out⟩
end Go.Proofs.Ytlghgfnkckaebaa
