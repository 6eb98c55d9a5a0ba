/- The law's done: told, New, and what is no step. (Printed by tools/genwdone.py.) -/
import Derived.Test.YtlghgfnkckaebaaWLaw4
import Derived.Deep.RegionHeld3
namespace Go.Proofs.Ytlghgfnkckaebaa
open Go.RowKit
set_option linter.unusedSimpArgs false
set_option linter.unusedVariables false

set_option maxRecDepth 20000 in
set_option maxHeartbeats 4000000 in
theorem done_told {w : World} {B PL i : Nat} {D : Nat → Option PD} (L : LAt w B PL D) (hi : i < 2) (F : Int) (hF : bits .and .i64 F 1 = (i : Int)) (kb : List Nat) (hk : kb.length = 32) (h256 : ∀ x ∈ kb, x < 256) (b h : Int) :
    Calls Try.prog 35 #[.slice (some ⟨PL, 0, none⟩) 2 2, .agg (stepV 5 F kb b h).toArray] w (DoneP w B PL) := by
  obtain ⟨S, hS⟩ : ∃ S, w.heap.size = S := ⟨_, rfl⟩
  obtain ⟨sv, hsv⟩ : ∃ sv, (stepV 5 F kb b h).toArray = sv := ⟨_, rfl⟩
  obtain ⟨w1, hw1⟩ : ∃ w1, w.alloc (.cells sv 75) = w1 := ⟨_, rfl⟩
  have hw1s : w1.heap.size = S + 1 := by rw [← hw1, ← hS]; simp
  obtain ⟨w2, hw2⟩ : ∃ w2, w1.alloc (.cells #[.pointer none, .pointer none] 57) = w2 := ⟨_, rfl⟩
  have hb1 : Below w.heap.size w w1 := by rw [← hw1]; exact (Below.refl _ _).alloc (Nat.le_refl _) _
  have hb12 : Below w1.heap.size w1 w2 := by rw [← hw2]; exact (Below.refl _ _).alloc (Nat.le_refl _) _
  have hB2 : Hid (Below w.heap.size w w2) := Lib.hid (hb1.trans (hb12.mono hb1.size))
  have hS1 : w1.heap[S]? = some (.cells sv 75 (0, 0)) := by rw [← hw1, ← hS]; exact heap_alloc_new w _
  have hS2 : Hid (w2.heap[S]? = some (.cells sv 75 (0, 0))) := Lib.hid ((hb12.block S (by rw [hw1s]; omega)).trans hS1)
  have hP2 : Hid (w2.heap[S + 1]? = some (.cells #[.pointer none, .pointer none] 57 (0, 0))) := Lib.hid (by rw [← hw2, ← hw1s]; exact heap_alloc_new w1 _)
  have s0 : w1.cell? ⟨S, 0, none⟩ = some (.int .i64 5) := by rw [cell_of_row _ _ 0 _ _ _ hS1, ← hsv]; simp [stepV]
  have s1 : w1.cell? ⟨S, 1, none⟩ = some (.int .i64 F) := by rw [cell_of_row _ _ 1 _ _ _ hS1, ← hsv]; simp [stepV]
  have hr1 := Lib.hid ((L.below hb1).range hi)
  have L2 := Lib.hid (L.below hB2.out)
  have hBs : Hid (B ≤ w.heap.size) := Lib.hid (Nat.le_trans L.off (Nat.le_of_lt L.lt_))
  have hone : Hid ((#[PD.pp (D i), PD.qq (D i)] : Array Value).all (·.oneCell') = true) := Lib.hid (by cases D i <;> simp [PD.pp, PD.qq, Value.oneCell'])
  obtain ⟨pv, hpv⟩ : ∃ pv, PD.pp (D i) = pv := ⟨_, rfl⟩
  obtain ⟨qv, hqv⟩ : ∃ qv, PD.qq (D i) = qv := ⟨_, rfl⟩
  rw [hpv, hqv] at hr1 hone
  have hpv' := Lib.hid hpv
  have hqv' := Lib.hid hqv
  have hi2 : Hid ((Try.prog.info? 57).map (·.size) = some 2) := Lib.hid (by kernel_rfl)
  have hi32 : Hid ((Try.prog.info? 51).map (·.size) = some 32) := Lib.hid (by kernel_rfl)
  have hL0 := Lib.hid L
  have hsv' := Lib.hid hsv
  have hi' := Lib.hid hi
  have hSz := Lib.hid hS
  have hk' := Lib.hid hk
  have h256' := Lib.hid h256
  rw [hsv]
  clear L hb1 hb12 hS1 hk h256 hpv hqv hsv
  go_enter Try.func35, Try.ntmps35
  go_wp2_with (first
    | (refine wpList_load_mid_g rfl 57 _ rfl PL (i * 2) rfl [pv, qv] _ hr1.out Try.underlying57 rfl hi2.out ?_; clear hr1)
    | (refine wpList_store_row rfl 57 _ _ rfl (S + 1) #[pv, qv] rfl rfl 57 _ hP2.out hi2.out rfl hone.out ?_
       obtain ⟨w3, hw3⟩ : ∃ w3, w2.setRow (S + 1) #[pv, qv] = w3 := ⟨_, rfl⟩
       have hP3 : Hid (w3.heap[S + 1]? = some (.cells #[pv, qv] 57 (0, 0))) := Lib.hid (by rw [← hw3]; exact setRow_heap w2 (S + 1) _ _ _ _ hP2.out)
       have hS3 : Hid (w3.heap[S]? = some (.cells sv 75 (0, 0))) := Lib.hid (by rw [← hw3, setRow_other _ _ _ _ (by omega)]; exact hS2.out)
       have hB3 : Hid (Below w.heap.size w w3) := Lib.hid (by rw [← hw3]; exact setRow_belowW hB2.out (by have := hSz.out; omega) _)
       have L3 := Lib.hid (hL0.out.below hB3.out)
       have k0 : w3.cell? ⟨S, 0, none⟩ = some (.int .i64 5) := by rw [cell_of_row _ _ 0 _ _ _ hS3.out, ← hsv'.out]; simp [stepV]
       have k34 : w3.cell? ⟨S, 34, none⟩ = some (.int .i64 b) := by rw [cell_of_row _ _ 34 _ _ _ hS3.out, ← hsv'.out]; simp [stepV, u8s, List.getElem?_append_right, hk'.out]
       have k35 : w3.cell? ⟨S, 35, none⟩ = some (.int .i64 h) := by rw [cell_of_row _ _ 35 _ _ _ hS3.out, ← hsv'.out]; simp [stepV, u8s, List.getElem?_append_right, hk'.out]
       have P0 : w3.cell? ⟨S + 1, 0, none⟩ = some (pv) := cell_of_row _ _ 0 _ _ _ hP3.out
       have P1 : w3.cell? ⟨S + 1, 1, none⟩ = some (qv) := cell_of_row _ _ 1 _ _ _ hP3.out
       rw [hw3]
       clear hw3 hone s0 s1 hP2 hS2 L2 hB2)
    | (refine wpList_load_row rfl 57 _ rfl (S + 1) rfl 57 #[pv, qv] (0, 0) _ hP3.out Try.underlying57 rfl hi2.out ?_)
    | (go_at_call 25
       have ht := told_any (L3.out.pair hi'.out)
       rw [hpv'.out, hqv'.out] at ht
       refine ht.mono ?_
       rintro e w4 ⟨rfl, b4⟩
       have hb4 := Lib.hid b4
       clear b4 ht))
  go_ret
  exact ⟨rfl, ⟨D, L3.out.below hb4.out⟩, (hB3.out.trans (hb4.out.mono hB3.out.size)).mono hBs.out⟩
set_option maxRecDepth 20000 in
set_option maxHeartbeats 4000000 in
theorem done_other {w : World} {B PL i : Nat} {D : Nat → Option PD} (L : LAt w B PL D) (hi : i < 2) (F : Int) (hF : bits .and .i64 F 1 = (i : Int)) (kb : List Nat) (hk : kb.length = 32) (h256 : ∀ x ∈ kb, x < 256) (b h : Int) (k : Int) (n1 : ¬ k = 1) (n2 : ¬ k = 2) (n3 : ¬ k = 3) (n4 : ¬ k = 4) (n5 : ¬ k = 5) (n6 : ¬ k = 6) (n7 : ¬ k = 7) (n8 : ¬ k = 8) :
    Calls Try.prog 35 #[.slice (some ⟨PL, 0, none⟩) 2 2, .agg (stepV k F kb b h).toArray] w (DoneP w B PL) := by
  obtain ⟨S, hS⟩ : ∃ S, w.heap.size = S := ⟨_, rfl⟩
  obtain ⟨sv, hsv⟩ : ∃ sv, (stepV k F kb b h).toArray = sv := ⟨_, rfl⟩
  obtain ⟨w1, hw1⟩ : ∃ w1, w.alloc (.cells sv 75) = w1 := ⟨_, rfl⟩
  have hw1s : w1.heap.size = S + 1 := by rw [← hw1, ← hS]; simp
  obtain ⟨w2, hw2⟩ : ∃ w2, w1.alloc (.cells #[.pointer none, .pointer none] 57) = w2 := ⟨_, rfl⟩
  have hb1 : Below w.heap.size w w1 := by rw [← hw1]; exact (Below.refl _ _).alloc (Nat.le_refl _) _
  have hb12 : Below w1.heap.size w1 w2 := by rw [← hw2]; exact (Below.refl _ _).alloc (Nat.le_refl _) _
  have hB2 : Hid (Below w.heap.size w w2) := Lib.hid (hb1.trans (hb12.mono hb1.size))
  have hS1 : w1.heap[S]? = some (.cells sv 75 (0, 0)) := by rw [← hw1, ← hS]; exact heap_alloc_new w _
  have hS2 : Hid (w2.heap[S]? = some (.cells sv 75 (0, 0))) := Lib.hid ((hb12.block S (by rw [hw1s]; omega)).trans hS1)
  have hP2 : Hid (w2.heap[S + 1]? = some (.cells #[.pointer none, .pointer none] 57 (0, 0))) := Lib.hid (by rw [← hw2, ← hw1s]; exact heap_alloc_new w1 _)
  have s0 : w1.cell? ⟨S, 0, none⟩ = some (.int .i64 k) := by rw [cell_of_row _ _ 0 _ _ _ hS1, ← hsv]; simp [stepV]
  have s1 : w1.cell? ⟨S, 1, none⟩ = some (.int .i64 F) := by rw [cell_of_row _ _ 1 _ _ _ hS1, ← hsv]; simp [stepV]
  have hr1 := Lib.hid ((L.below hb1).range hi)
  have L2 := Lib.hid (L.below hB2.out)
  have hBs : Hid (B ≤ w.heap.size) := Lib.hid (Nat.le_trans L.off (Nat.le_of_lt L.lt_))
  have hone : Hid ((#[PD.pp (D i), PD.qq (D i)] : Array Value).all (·.oneCell') = true) := Lib.hid (by cases D i <;> simp [PD.pp, PD.qq, Value.oneCell'])
  obtain ⟨pv, hpv⟩ : ∃ pv, PD.pp (D i) = pv := ⟨_, rfl⟩
  obtain ⟨qv, hqv⟩ : ∃ qv, PD.qq (D i) = qv := ⟨_, rfl⟩
  rw [hpv, hqv] at hr1 hone
  have hpv' := Lib.hid hpv
  have hqv' := Lib.hid hqv
  have hi2 : Hid ((Try.prog.info? 57).map (·.size) = some 2) := Lib.hid (by kernel_rfl)
  have hi32 : Hid ((Try.prog.info? 51).map (·.size) = some 32) := Lib.hid (by kernel_rfl)
  have hL0 := Lib.hid L
  have hsv' := Lib.hid hsv
  have hi' := Lib.hid hi
  have hSz := Lib.hid hS
  have hk' := Lib.hid hk
  have h256' := Lib.hid h256
  rw [hsv]
  clear L hb1 hb12 hS1 hk h256 hpv hqv hsv
  have m1 : (k == 1) = false := by simpa using n1
  have m2 : (k == 2) = false := by simpa using n2
  have m3 : (k == 3) = false := by simpa using n3
  have m4 : (k == 4) = false := by simpa using n4
  have m5 : (k == 5) = false := by simpa using n5
  have m6 : (k == 6) = false := by simpa using n6
  have m7 : (k == 7) = false := by simpa using n7
  have m8 : (k == 8) = false := by simpa using n8
  go_enter Try.func35, Try.ntmps35
  go_wp2_with (first
    | (refine wpList_load_mid_g rfl 57 _ rfl PL (i * 2) rfl [pv, qv] _ hr1.out Try.underlying57 rfl hi2.out ?_; clear hr1)
    | (refine wpList_store_row rfl 57 _ _ rfl (S + 1) #[pv, qv] rfl rfl 57 _ hP2.out hi2.out rfl hone.out ?_
       obtain ⟨w3, hw3⟩ : ∃ w3, w2.setRow (S + 1) #[pv, qv] = w3 := ⟨_, rfl⟩
       have hP3 : Hid (w3.heap[S + 1]? = some (.cells #[pv, qv] 57 (0, 0))) := Lib.hid (by rw [← hw3]; exact setRow_heap w2 (S + 1) _ _ _ _ hP2.out)
       have hS3 : Hid (w3.heap[S]? = some (.cells sv 75 (0, 0))) := Lib.hid (by rw [← hw3, setRow_other _ _ _ _ (by omega)]; exact hS2.out)
       have hB3 : Hid (Below w.heap.size w w3) := Lib.hid (by rw [← hw3]; exact setRow_belowW hB2.out (by have := hSz.out; omega) _)
       have L3 := Lib.hid (hL0.out.below hB3.out)
       have k0 : w3.cell? ⟨S, 0, none⟩ = some (.int .i64 k) := by rw [cell_of_row _ _ 0 _ _ _ hS3.out, ← hsv'.out]; simp [stepV]
       have k34 : w3.cell? ⟨S, 34, none⟩ = some (.int .i64 b) := by rw [cell_of_row _ _ 34 _ _ _ hS3.out, ← hsv'.out]; simp [stepV, u8s, List.getElem?_append_right, hk'.out]
       have k35 : w3.cell? ⟨S, 35, none⟩ = some (.int .i64 h) := by rw [cell_of_row _ _ 35 _ _ _ hS3.out, ← hsv'.out]; simp [stepV, u8s, List.getElem?_append_right, hk'.out]
       have P0 : w3.cell? ⟨S + 1, 0, none⟩ = some (pv) := cell_of_row _ _ 0 _ _ _ hP3.out
       have P1 : w3.cell? ⟨S + 1, 1, none⟩ = some (qv) := cell_of_row _ _ 1 _ _ _ hP3.out
       rw [hw3]
       clear hw3 hone s0 s1 hP2 hS2 L2 hB2))
  go_ret
  exact ⟨rfl, ⟨D, L3.out⟩, hB3.out.mono hBs.out⟩
set_option maxRecDepth 20000 in
set_option maxHeartbeats 4000000 in
theorem done_new {w : World} {B PL i : Nat} {D : Nat → Option PD} (L : LAt w B PL D) (hi : i < 2) (F : Int) (hF : bits .and .i64 F 1 = (i : Int)) (kb : List Nat) (hk : kb.length = 32) (h256 : ∀ x ∈ kb, x < 256) (b h : Int) :
    Calls Try.prog 35 #[.slice (some ⟨PL, 0, none⟩) 2 2, .agg (stepV 8 F kb b h).toArray] w (DoneP w B PL) := by
  obtain ⟨S, hS⟩ : ∃ S, w.heap.size = S := ⟨_, rfl⟩
  obtain ⟨sv, hsv⟩ : ∃ sv, (stepV 8 F kb b h).toArray = sv := ⟨_, rfl⟩
  obtain ⟨w1, hw1⟩ : ∃ w1, w.alloc (.cells sv 75) = w1 := ⟨_, rfl⟩
  have hw1s : w1.heap.size = S + 1 := by rw [← hw1, ← hS]; simp
  obtain ⟨w2, hw2⟩ : ∃ w2, w1.alloc (.cells #[.pointer none, .pointer none] 57) = w2 := ⟨_, rfl⟩
  have hb1 : Below w.heap.size w w1 := by rw [← hw1]; exact (Below.refl _ _).alloc (Nat.le_refl _) _
  have hb12 : Below w1.heap.size w1 w2 := by rw [← hw2]; exact (Below.refl _ _).alloc (Nat.le_refl _) _
  have hB2 : Hid (Below w.heap.size w w2) := Lib.hid (hb1.trans (hb12.mono hb1.size))
  have hS1 : w1.heap[S]? = some (.cells sv 75 (0, 0)) := by rw [← hw1, ← hS]; exact heap_alloc_new w _
  have hS2 : Hid (w2.heap[S]? = some (.cells sv 75 (0, 0))) := Lib.hid ((hb12.block S (by rw [hw1s]; omega)).trans hS1)
  have hP2 : Hid (w2.heap[S + 1]? = some (.cells #[.pointer none, .pointer none] 57 (0, 0))) := Lib.hid (by rw [← hw2, ← hw1s]; exact heap_alloc_new w1 _)
  have s0 : w1.cell? ⟨S, 0, none⟩ = some (.int .i64 8) := by rw [cell_of_row _ _ 0 _ _ _ hS1, ← hsv]; simp [stepV]
  have s1 : w1.cell? ⟨S, 1, none⟩ = some (.int .i64 F) := by rw [cell_of_row _ _ 1 _ _ _ hS1, ← hsv]; simp [stepV]
  have hr1 := Lib.hid ((L.below hb1).range hi)
  have L2 := Lib.hid (L.below hB2.out)
  have hBs : Hid (B ≤ w.heap.size) := Lib.hid (Nat.le_trans L.off (Nat.le_of_lt L.lt_))
  have hone : Hid ((#[PD.pp (D i), PD.qq (D i)] : Array Value).all (·.oneCell') = true) := Lib.hid (by cases D i <;> simp [PD.pp, PD.qq, Value.oneCell'])
  obtain ⟨pv, hpv⟩ : ∃ pv, PD.pp (D i) = pv := ⟨_, rfl⟩
  obtain ⟨qv, hqv⟩ : ∃ qv, PD.qq (D i) = qv := ⟨_, rfl⟩
  rw [hpv, hqv] at hr1 hone
  have hpv' := Lib.hid hpv
  have hqv' := Lib.hid hqv
  have hi2 : Hid ((Try.prog.info? 57).map (·.size) = some 2) := Lib.hid (by kernel_rfl)
  have hi32 : Hid ((Try.prog.info? 51).map (·.size) = some 32) := Lib.hid (by kernel_rfl)
  have hL0 := Lib.hid L
  have hsv' := Lib.hid hsv
  have hi' := Lib.hid hi
  have hSz := Lib.hid hS
  have hk' := Lib.hid hk
  have h256' := Lib.hid h256
  rw [hsv]
  clear L hb1 hb12 hS1 hk h256 hpv hqv hsv
  go_enter Try.func35, Try.ntmps35
  go_wp2_with (first
    | (refine wpList_load_mid_g rfl 57 _ rfl PL (i * 2) rfl [pv, qv] _ hr1.out Try.underlying57 rfl hi2.out ?_; clear hr1)
    | (refine wpList_store_row rfl 57 _ _ rfl (S + 1) #[pv, qv] rfl rfl 57 _ hP2.out hi2.out rfl hone.out ?_
       obtain ⟨w3, hw3⟩ : ∃ w3, w2.setRow (S + 1) #[pv, qv] = w3 := ⟨_, rfl⟩
       have hP3 : Hid (w3.heap[S + 1]? = some (.cells #[pv, qv] 57 (0, 0))) := Lib.hid (by rw [← hw3]; exact setRow_heap w2 (S + 1) _ _ _ _ hP2.out)
       have hS3 : Hid (w3.heap[S]? = some (.cells sv 75 (0, 0))) := Lib.hid (by rw [← hw3, setRow_other _ _ _ _ (by omega)]; exact hS2.out)
       have hB3 : Hid (Below w.heap.size w w3) := Lib.hid (by rw [← hw3]; exact setRow_belowW hB2.out (by have := hSz.out; omega) _)
       have L3 := Lib.hid (hL0.out.below hB3.out)
       have k0 : w3.cell? ⟨S, 0, none⟩ = some (.int .i64 8) := by rw [cell_of_row _ _ 0 _ _ _ hS3.out, ← hsv'.out]; simp [stepV]
       have k34 : w3.cell? ⟨S, 34, none⟩ = some (.int .i64 b) := by rw [cell_of_row _ _ 34 _ _ _ hS3.out, ← hsv'.out]; simp [stepV, u8s, List.getElem?_append_right, hk'.out]
       have k35 : w3.cell? ⟨S, 35, none⟩ = some (.int .i64 h) := by rw [cell_of_row _ _ 35 _ _ _ hS3.out, ← hsv'.out]; simp [stepV, u8s, List.getElem?_append_right, hk'.out]
       have P0 : w3.cell? ⟨S + 1, 0, none⟩ = some (pv) := cell_of_row _ _ 0 _ _ _ hP3.out
       have P1 : w3.cell? ⟨S + 1, 1, none⟩ = some (qv) := cell_of_row _ _ 1 _ _ _ hP3.out
       rw [hw3]
       clear hw3 hone s0 s1 hP2 hS2 L2 hB2)
    | (go_at_call 34
       refine (made_any b h w3).mono ?_
       unfold MadeP
       rintro e w4 ⟨⟨d', rfl, hp4⟩, b4⟩
       obtain ⟨M, hM⟩ : ∃ M, w4.heap.size = M := ⟨_, rfl⟩
       obtain ⟨pa', hpv2⟩ : ∃ pa, PD.pp d' = .pointer pa := by cases d' <;> exact ⟨_, rfl⟩
       obtain ⟨qa', hqv2⟩ : ∃ qa, PD.qq d' = .pointer qa := by cases d' <;> exact ⟨_, rfl⟩
       have hone2 : Hid ((#[PD.pp d', PD.qq d'] : Array Value).all (·.oneCell') = true) := Lib.hid (by cases d' <;> simp [PD.pp, PD.qq, Value.oneCell'])
       rw [hpv2, hqv2] at hone2 ⊢
       have hpd := Lib.hid hp4
       have hb4 := Lib.hid b4
       have hpq := Lib.hid (And.intro hpv2 hqv2)
       obtain ⟨w5, hw5⟩ : ∃ w5, w4.alloc (.cells #[.pointer none, .pointer none] 57) = w5 := ⟨_, rfl⟩
       have hb5 : Hid (Below w4.heap.size w4 w5) := Lib.hid (by rw [← hw5]; exact (Below.refl _ _).alloc (Nat.le_refl _) _)
       have hM5 : Hid (w5.heap[M]? = some (.cells #[.pointer none, .pointer none] 57 (0, 0))) := Lib.hid (by rw [← hw5, ← hM]; exact heap_alloc_new w4 _)
       have hMz := Lib.hid hM
       clear hp4 b4 hpv2 hqv2)
    | (refine wpList_store_row rfl 57 _ _ rfl M #[.pointer pa', .pointer qa'] rfl rfl 57 _ hM5.out hi2.out rfl hone2.out ?_
       obtain ⟨w6, hw6⟩ : ∃ w6, w5.setRow M #[.pointer pa', .pointer qa'] = w6 := ⟨_, rfl⟩
       have hM6 : Hid (w6.heap[M]? = some (.cells #[.pointer pa', .pointer qa'] 57 (0, 0))) := Lib.hid (by rw [← hw6]; exact setRow_heap w5 M _ _ _ _ hM5.out)
       have hB6 : Hid (Below w4.heap.size w4 w6) := Lib.hid (by rw [← hw6]; exact setRow_belowW hb5.out (by have := hMz.out; omega) _)
       have hB36 := Lib.hid (hb4.out.trans (hB6.out.mono hb4.out.size))
       have L6 := Lib.hid (L3.out.below hB36.out)
       have hp6 := Lib.hid (hpd.out.below hB6.out)
       have e1 : w6.cell? ⟨PL, i * 2, none⟩ = some (PD.pp (D i)) := L6.out.range hi'.out 0 _ rfl
       have f1 := L6.out.fz (i * 2)
       have e2 : (w6.setCell ⟨PL, i * 2, none⟩ (.pointer pa')).cell? ⟨PL, i * 2 + 1, none⟩ = some (PD.qq (D i)) := by
         rw [cell_of_row _ _ _ _ _ _ (heap_setCell_same w6 PL (i * 2) _ _ _ L6.out.blk)]
         have := L6.out.range hi'.out 1 _ rfl
         rw [cell_of_row _ _ _ _ _ _ L6.out.blk] at this
         simp only [Array.getElem?_setIfInBounds, show i * 2 ≠ i * 2 + 1 by omega, if_false]
         exact this
       have f2 : (w6.setCell ⟨PL, i * 2, none⟩ (.pointer pa')).frozen? ⟨PL, i * 2 + 1, none⟩ = false := by
         simp [World.frozen?, heap_setCell_same w6 PL (i * 2) _ _ _ L6.out.blk]
       rw [hw6]
       clear hw6 hb5 hM5 hone2 hw5)
    | (refine wpList_load_row rfl 57 _ rfl M rfl 57 #[.pointer pa', .pointer qa'] (0, 0) _ hM6.out Try.underlying57 rfl hi2.out ?_))
  go_ret
  have hap : Apart d' (D (1 - i)) := by
    cases hD1 : D (1 - i) with
    | none => cases d' <;> trivial
    | some e =>
      cases d' with
      | none => trivial
      | some x =>
        have l1 := (hD1 ▸ L3.out.pair (i := 1 - i) (by omega) : PairAt w3 B (some e)).lt
        have l2 := hpd.out.lt
        exact ⟨by omega, by omega, by omega⟩
  have hpB : PairAt w6 B d' := by
    have := hp6.out
    cases d' with
    | none => trivial
    | some x =>
      have hz : B ≤ w3.heap.size := Nat.le_trans hBs.out hB3.out.size
      exact ⟨this.1.base hz, RF.base this.2 hz⟩
  have LL := L6.out.put hi'.out hpB hap
  rw [hpq.out.1, hpq.out.2] at LL
  refine ⟨rfl, ⟨_, LL⟩, ?_⟩
  have fz := (Fr.setCell w6 ⟨PL, i * 2, none⟩ (.pointer pa')).trans (Fr.setCell _ ⟨PL, i * 2 + 1, none⟩ (.pointer qa')) (D := fun k => k = PL) (fun _ _ q => q)
  have bz := (hB3.out.trans (hB36.out.mono hB3.out.size)).mono hBs.out
  exact bz.trans (fz.below (Nat.le_trans hBs.out (Nat.le_trans hB3.out.size hB36.out.size)) (fun k hk q => by have := L6.out.off; have q : k = PL := q; omega))
end Go.Proofs.Ytlghgfnkckaebaa
