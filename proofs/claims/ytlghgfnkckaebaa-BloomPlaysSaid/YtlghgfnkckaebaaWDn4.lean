/- The law's done: Bytes, Open. (Printed by tools/genwdone.py.) -/
import Derived.Test.YtlghgfnkckaebaaWDn1
import Derived.Test.YtlghgfnkckaebaaWOpB
import Derived.Deep.RegionHeld3
namespace Go.Proofs.Ytlghgfnkckaebaa
open Go.RowKit
set_option linter.unusedSimpArgs false
set_option linter.unusedVariables false

set_option maxRecDepth 20000 in
set_option maxHeartbeats 4000000 in
theorem done_bytes0 {w : World} {B PL i : Nat} {D : Nat → Option PD} (hDi : D i = none) (L : LAt w B PL D) (hi : i < 2) (F : Int) (hF : bits .and .i64 F 1 = (i : Int)) (kb : List Nat) (hk : kb.length = 32) (h256 : ∀ x ∈ kb, x < 256) (b h : Int) :
    Calls Try.prog 35 #[.slice (some ⟨PL, 0, none⟩) 2 2, .agg (stepV 6 F kb b h).toArray] w (DoneP w B PL) := by
  obtain ⟨S, hS⟩ : ∃ S, w.heap.size = S := ⟨_, rfl⟩
  obtain ⟨sv, hsv⟩ : ∃ sv, (stepV 6 F kb b h).toArray = sv := ⟨_, rfl⟩
  obtain ⟨w1, hw1⟩ : ∃ w1, w.alloc (.cells sv 75) = w1 := ⟨_, rfl⟩
  have hw1s : w1.heap.size = S + 1 := by rw [← hw1, ← hS]; simp
  obtain ⟨w2, hw2⟩ : ∃ w2, w1.alloc (.cells #[.pointer none, .pointer none] 57) = w2 := ⟨_, rfl⟩
  have hb1 : Below w.heap.size w w1 := by rw [← hw1]; exact (Below.refl _ _).alloc (Nat.le_refl _) _
  have hb12 : Below w1.heap.size w1 w2 := by rw [← hw2]; exact (Below.refl _ _).alloc (Nat.le_refl _) _
  have hB2 : Hid (Below w.heap.size w w2) := Lib.hid (hb1.trans (hb12.mono hb1.size))
  have hS1 : w1.heap[S]? = some (.cells sv 75 (0, 0)) := by rw [← hw1, ← hS]; exact heap_alloc_new w _
  have hS2 : Hid (w2.heap[S]? = some (.cells sv 75 (0, 0))) := Lib.hid ((hb12.block S (by rw [hw1s]; omega)).trans hS1)
  have hP2 : Hid (w2.heap[S + 1]? = some (.cells #[.pointer none, .pointer none] 57 (0, 0))) := Lib.hid (by rw [← hw2, ← hw1s]; exact heap_alloc_new w1 _)
  have s0 : w1.cell? ⟨S, 0, none⟩ = some (.int .i64 6) := by rw [cell_of_row _ _ 0 _ _ _ hS1, ← hsv]; simp [stepV]
  have s1 : w1.cell? ⟨S, 1, none⟩ = some (.int .i64 F) := by rw [cell_of_row _ _ 1 _ _ _ hS1, ← hsv]; simp [stepV]
  have hr1 := Lib.hid ((L.below hb1).range hi)
  have L2 := Lib.hid (L.below hB2.out)
  have hBs : Hid (B ≤ w.heap.size) := Lib.hid (Nat.le_trans L.off (Nat.le_of_lt L.lt_))
  have hone : Hid ((#[PD.pp (D i), PD.qq (D i)] : Array Value).all (·.oneCell') = true) := Lib.hid (by cases D i <;> simp [PD.pp, PD.qq, Value.oneCell'])
  obtain ⟨pv, hpv⟩ : ∃ pv, PD.pp (D i) = pv := ⟨_, rfl⟩
  obtain ⟨qv, hqv⟩ : ∃ qv, PD.qq (D i) = qv := ⟨_, rfl⟩
  rw [hpv, hqv] at hr1 hone
  have hpv' := Lib.hid hpv
  have hqv' := Lib.hid hqv
  have hi2 : Hid ((Try.prog.info? 57).map (·.size) = some 2) := Lib.hid (by kernel_rfl)
  have hi32 : Hid ((Try.prog.info? 51).map (·.size) = some 32) := Lib.hid (by kernel_rfl)
  have hL0 := Lib.hid L
  have hsv' := Lib.hid hsv
  have hi' := Lib.hid hi
  have hSz := Lib.hid hS
  have hk' := Lib.hid hk
  have h256' := Lib.hid h256
  rw [hsv]
  have hDi' := Lib.hid hDi
  rw [hDi] at hpv hqv
  simp only [PD.pp, PD.qq] at hpv hqv
  subst hpv hqv
  clear L hb1 hb12 hS1 hk h256 hsv hDi
  go_enter Try.func35, Try.ntmps35
  go_wp2_with (first
    | (refine wpList_load_mid_g rfl 57 _ rfl PL (i * 2) rfl [.pointer none, .pointer none] _ hr1.out Try.underlying57 rfl hi2.out ?_; clear hr1)
    | (refine wpList_store_row rfl 57 _ _ rfl (S + 1) #[.pointer none, .pointer none] rfl rfl 57 _ hP2.out hi2.out rfl hone.out ?_
       obtain ⟨w3, hw3⟩ : ∃ w3, w2.setRow (S + 1) #[.pointer none, .pointer none] = w3 := ⟨_, rfl⟩
       have hP3 : Hid (w3.heap[S + 1]? = some (.cells #[.pointer none, .pointer none] 57 (0, 0))) := Lib.hid (by rw [← hw3]; exact setRow_heap w2 (S + 1) _ _ _ _ hP2.out)
       have hS3 : Hid (w3.heap[S]? = some (.cells sv 75 (0, 0))) := Lib.hid (by rw [← hw3, setRow_other _ _ _ _ (by omega)]; exact hS2.out)
       have hB3 : Hid (Below w.heap.size w w3) := Lib.hid (by rw [← hw3]; exact setRow_belowW hB2.out (by have := hSz.out; omega) _)
       have L3 := Lib.hid (hL0.out.below hB3.out)
       have k0 : w3.cell? ⟨S, 0, none⟩ = some (.int .i64 6) := by rw [cell_of_row _ _ 0 _ _ _ hS3.out, ← hsv'.out]; simp [stepV]
       have k34 : w3.cell? ⟨S, 34, none⟩ = some (.int .i64 b) := by rw [cell_of_row _ _ 34 _ _ _ hS3.out, ← hsv'.out]; simp [stepV, u8s, List.getElem?_append_right, hk'.out]
       have k35 : w3.cell? ⟨S, 35, none⟩ = some (.int .i64 h) := by rw [cell_of_row _ _ 35 _ _ _ hS3.out, ← hsv'.out]; simp [stepV, u8s, List.getElem?_append_right, hk'.out]
       have P0 : w3.cell? ⟨S + 1, 0, none⟩ = some (.pointer none) := cell_of_row _ _ 0 _ _ _ hP3.out
       have P1 : w3.cell? ⟨S + 1, 1, none⟩ = some (.pointer none) := cell_of_row _ _ 1 _ _ _ hP3.out
       rw [hw3]
       clear hw3 hone s0 s1 hP2 hS2 L2 hB2)
    | (go_at_call 22
       refine (bytes_no (.inl rfl)).mono ?_
       rintro e w4 ⟨rfl, rfl⟩))
  go_ret
  exact ⟨rfl, ⟨D, L3.out⟩, hB3.out.mono hBs.out⟩
set_option maxRecDepth 20000 in
set_option maxHeartbeats 4000000 in
theorem done_bytes1 {w : World} {B PL i : Nat} {D : Nat → Option PD} {d : PD} (hDi : D i = some d) (L : LAt w B PL D) (hi : i < 2) (F : Int) (hF : bits .and .i64 F 1 = (i : Int)) (kb : List Nat) (hk : kb.length = 32) (h256 : ∀ x ∈ kb, x < 256) (b h : Int) :
    Calls Try.prog 35 #[.slice (some ⟨PL, 0, none⟩) 2 2, .agg (stepV 6 F kb b h).toArray] w (DoneP w B PL) := by
  obtain ⟨S, hS⟩ : ∃ S, w.heap.size = S := ⟨_, rfl⟩
  obtain ⟨sv, hsv⟩ : ∃ sv, (stepV 6 F kb b h).toArray = sv := ⟨_, rfl⟩
  obtain ⟨w1, hw1⟩ : ∃ w1, w.alloc (.cells sv 75) = w1 := ⟨_, rfl⟩
  have hw1s : w1.heap.size = S + 1 := by rw [← hw1, ← hS]; simp
  obtain ⟨w2, hw2⟩ : ∃ w2, w1.alloc (.cells #[.pointer none, .pointer none] 57) = w2 := ⟨_, rfl⟩
  have hb1 : Below w.heap.size w w1 := by rw [← hw1]; exact (Below.refl _ _).alloc (Nat.le_refl _) _
  have hb12 : Below w1.heap.size w1 w2 := by rw [← hw2]; exact (Below.refl _ _).alloc (Nat.le_refl _) _
  have hB2 : Hid (Below w.heap.size w w2) := Lib.hid (hb1.trans (hb12.mono hb1.size))
  have hS1 : w1.heap[S]? = some (.cells sv 75 (0, 0)) := by rw [← hw1, ← hS]; exact heap_alloc_new w _
  have hS2 : Hid (w2.heap[S]? = some (.cells sv 75 (0, 0))) := Lib.hid ((hb12.block S (by rw [hw1s]; omega)).trans hS1)
  have hP2 : Hid (w2.heap[S + 1]? = some (.cells #[.pointer none, .pointer none] 57 (0, 0))) := Lib.hid (by rw [← hw2, ← hw1s]; exact heap_alloc_new w1 _)
  have s0 : w1.cell? ⟨S, 0, none⟩ = some (.int .i64 6) := by rw [cell_of_row _ _ 0 _ _ _ hS1, ← hsv]; simp [stepV]
  have s1 : w1.cell? ⟨S, 1, none⟩ = some (.int .i64 F) := by rw [cell_of_row _ _ 1 _ _ _ hS1, ← hsv]; simp [stepV]
  have hr1 := Lib.hid ((L.below hb1).range hi)
  have L2 := Lib.hid (L.below hB2.out)
  have hBs : Hid (B ≤ w.heap.size) := Lib.hid (Nat.le_trans L.off (Nat.le_of_lt L.lt_))
  have hone : Hid ((#[PD.pp (D i), PD.qq (D i)] : Array Value).all (·.oneCell') = true) := Lib.hid (by cases D i <;> simp [PD.pp, PD.qq, Value.oneCell'])
  obtain ⟨pv, hpv⟩ : ∃ pv, PD.pp (D i) = pv := ⟨_, rfl⟩
  obtain ⟨qv, hqv⟩ : ∃ qv, PD.qq (D i) = qv := ⟨_, rfl⟩
  rw [hpv, hqv] at hr1 hone
  have hpv' := Lib.hid hpv
  have hqv' := Lib.hid hqv
  have hi2 : Hid ((Try.prog.info? 57).map (·.size) = some 2) := Lib.hid (by kernel_rfl)
  have hi32 : Hid ((Try.prog.info? 51).map (·.size) = some 32) := Lib.hid (by kernel_rfl)
  have hL0 := Lib.hid L
  have hsv' := Lib.hid hsv
  have hi' := Lib.hid hi
  have hSz := Lib.hid hS
  have hk' := Lib.hid hk
  have h256' := Lib.hid h256
  rw [hsv]
  have hDi' := Lib.hid hDi
  rw [hDi] at hpv hqv
  simp only [PD.pp, PD.qq] at hpv hqv
  subst hpv hqv
  clear L hb1 hb12 hS1 hk h256 hsv hDi
  go_enter Try.func35, Try.ntmps35
  obtain ⟨L, hL⟩ : ∃ L, Hid (fBy d.h d.l = L) := ⟨_, Lib.hid rfl⟩
  obtain ⟨SL, hSL⟩ : ∃ SL, strB L = SL := ⟨_, rfl⟩
  obtain ⟨LN, hLn⟩ : ∃ LN, Hid (L.length = LN) := ⟨_, Lib.hid rfl⟩
  have hL256 : Hid (∀ x ∈ L, x < 256) := Lib.hid (by
    rw [← hL.out]
    intro x hx
    exact fBy_lt _ _ x hx)
  go_wp2_with (first
    | (refine wpList_load_mid_g rfl 57 _ rfl PL (i * 2) rfl [.pointer (some ⟨d.g, 0, none⟩), .pointer (some ⟨d.r, 0, none⟩)] _ hr1.out Try.underlying57 rfl hi2.out ?_; clear hr1)
    | (refine wpList_store_row rfl 57 _ _ rfl (S + 1) #[.pointer (some ⟨d.g, 0, none⟩), .pointer (some ⟨d.r, 0, none⟩)] rfl rfl 57 _ hP2.out hi2.out rfl hone.out ?_
       obtain ⟨w3, hw3⟩ : ∃ w3, w2.setRow (S + 1) #[.pointer (some ⟨d.g, 0, none⟩), .pointer (some ⟨d.r, 0, none⟩)] = w3 := ⟨_, rfl⟩
       have hP3 : Hid (w3.heap[S + 1]? = some (.cells #[.pointer (some ⟨d.g, 0, none⟩), .pointer (some ⟨d.r, 0, none⟩)] 57 (0, 0))) := Lib.hid (by rw [← hw3]; exact setRow_heap w2 (S + 1) _ _ _ _ hP2.out)
       have hS3 : Hid (w3.heap[S]? = some (.cells sv 75 (0, 0))) := Lib.hid (by rw [← hw3, setRow_other _ _ _ _ (by omega)]; exact hS2.out)
       have hB3 : Hid (Below w.heap.size w w3) := Lib.hid (by rw [← hw3]; exact setRow_belowW hB2.out (by have := hSz.out; omega) _)
       have L3 := Lib.hid (hL0.out.below hB3.out)
       have k0 : w3.cell? ⟨S, 0, none⟩ = some (.int .i64 6) := by rw [cell_of_row _ _ 0 _ _ _ hS3.out, ← hsv'.out]; simp [stepV]
       have k34 : w3.cell? ⟨S, 34, none⟩ = some (.int .i64 b) := by rw [cell_of_row _ _ 34 _ _ _ hS3.out, ← hsv'.out]; simp [stepV, u8s, List.getElem?_append_right, hk'.out]
       have k35 : w3.cell? ⟨S, 35, none⟩ = some (.int .i64 h) := by rw [cell_of_row _ _ 35 _ _ _ hS3.out, ← hsv'.out]; simp [stepV, u8s, List.getElem?_append_right, hk'.out]
       have P0 : w3.cell? ⟨S + 1, 0, none⟩ = some (.pointer (some ⟨d.g, 0, none⟩)) := cell_of_row _ _ 0 _ _ _ hP3.out
       have P1 : w3.cell? ⟨S + 1, 1, none⟩ = some (.pointer (some ⟨d.r, 0, none⟩)) := cell_of_row _ _ 1 _ _ _ hP3.out
       rw [hw3]
       clear hw3 hone s0 s1 hP2 hS2 L2 hB2)
    | (go_at_call 22
       have hp3 : PairAt w3 B (some d) := by have := L3.out.pair hi'.out; rw [hDi'.out] at this; exact this
       have hby := fbytes_any hp3.1
       rw [hL.out] at hby
       unfold FByP at hby
       rw [hLn.out] at hby
       refine hby.mono ?_
       rintro e w8 ⟨⟨A8, c8, rfl, o8⟩, b8⟩
       have o8' := Lib.hid o8
       have b38 := Lib.hid b8
       have hlt3 := lt_of_block hP3.out
       have P18 := Lib.hid ((b8.cell (p := ⟨S + 1, 1, none⟩) hlt3).trans P1)
       have P1w := P18.out
       have k08 := Lib.hid ((b8.cell (p := ⟨S, 0, none⟩) (by show S < _; omega)).trans k0)
       have hlt : Hid (S + 1 < w8.heap.size ∧ S < w8.heap.size) := Lib.hid (by have := b8.size; omega)
       have L8 := Lib.hid (L3.out.below b8)
       have B8 := Lib.hid (hB3.out.trans (b8.mono hB3.out.size))
       clear o8 b8 hby hp3 P0 P1 k0 k34 k35 hlt3))
  have hd : Hid (Below w8.heap.size w8 (World.drew w8)) := Lib.hid (below_drewN (Below.refl _ _) 1)
  have hrb : Hid (Calls Try.prog 67 #[.pointer (some ⟨d.r, 0, none⟩)] (World.drew w8) (FByP (World.drew w8) L)) := Lib.hid (by
    have hp := (L8.out.below hd.out).pair hi'.out
    rw [hDi'.out] at hp
    have := rbytes_any hp.2
    rw [hL.out] at this
    exact this)
  unfold FByP at hrb
  rw [hLn.out] at hrb
  clear P1w
  refine wp_region_held (S := fun W => Below w8.heap.size w8 W) (by kernel_rfl) ?_
  change wpAnyH _ _ _ _ _ _ _ _ (World.drew _)
  refine tk (i := 0) (d := 95) (v := .slice A8 LN c8) rfl rfl (Or.inl ⟨by rfl, by intro W hW; clear hW; go_simp⟩) hd.out ?_
  simp only [List.setIfInBounds_toArray, List.set_cons_zero, List.set_cons_succ]
  refine tk (i := 1) (d := 96) (v := .string SL) rfl rfl (Or.inl ⟨by rfl, by intro W hW; have hcw := conv_bytes W L A8 c8 _ ((o8'.out.below hW fun k hk => (o8'.out.lt k hk).2).byt) hL256.out; rw [hLn.out, hSL] at hcw; clear hW; go_simp⟩) hd.out ?_
  simp only [List.setIfInBounds_toArray, List.set_cons_zero, List.set_cons_succ]
  refine tk (i := 2) (d := 97) (v := .pointer (some ⟨S + 1, 1, none⟩)) rfl rfl (Or.inl ⟨by rfl, by intro W hW; clear hW; go_simp⟩) hd.out ?_
  simp only [List.setIfInBounds_toArray, List.set_cons_zero, List.set_cons_succ]
  refine tk (i := 3) (d := 98) (v := .pointer (some ⟨d.r, 0, none⟩)) rfl rfl (Or.inl ⟨by rfl, by intro W hW; have p1 := (hW.cell (p := ⟨S + 1, 1, none⟩) hlt.out.1).trans P18.out; clear hW; go_simp⟩) hd.out ?_
  simp only [List.setIfInBounds_toArray, List.set_cons_zero, List.set_cons_succ]
  refine wpAnyH_ready (rs := [4]) (by kernel_rfl) (by simp) ?_
  refine AllReadyH.cons rfl (fun K hK => ?_) AllReadyH.nil
  go_simp
  refine hrb.out.mono ?_
  rintro e w9 ⟨⟨A9, c9, rfl, o9⟩, b9⟩
  have o9' := Lib.hid o9
  have hs9 := Lib.hid (hd.out.trans (b9.mono hd.out.size))
  clear o9 b9 hrb
  refine hK.out _ _ hs9.out (fun _ => ?_)
  clear hK K
  refine wpAnyH_ready (rs := [5]) (by kernel_rfl) (by simp) ?_
  refine AllReadyH.cons rfl (fun K hK => ?_) AllReadyH.nil
  have hcv := conv_bytes _ L A9 c9 _ o9'.out.byt hL256.out
  rw [hLn.out, hSL] at hcv
  go_simp
  clear hcv
  refine hK.out _ _ hs9.out (fun _ => ?_)
  clear hK K
  refine tk (i := 6) (d := 101) (v := .bool false) rfl rfl (Or.inl ⟨by rfl, by intro W hW; clear hW; go_simp⟩) hs9.out ?_
  simp only [List.setIfInBounds_toArray, List.set_cons_zero, List.set_cons_succ]
  refine wpAnyH_done (by kernel_rfl) ?_ _
  have k9 := (hs9.out.cell (p := ⟨S, 0, none⟩) hlt.out.2).trans k08.out
  go_wp2_with fail
  go_ret
  exact ⟨rfl, ⟨D, L8.out.below hs9.out⟩, (B8.out.trans (hs9.out.mono B8.out.size)).mono hBs.out⟩
set_option maxRecDepth 20000 in
set_option maxHeartbeats 4000000 in
theorem done_open0 {w : World} {B PL i : Nat} {D : Nat → Option PD} (hDi : D i = none) (L : LAt w B PL D) (hi : i < 2) (F : Int) (hF : bits .and .i64 F 1 = (i : Int)) (kb : List Nat) (hk : kb.length = 32) (h256 : ∀ x ∈ kb, x < 256) (b h : Int) :
    Calls Try.prog 35 #[.slice (some ⟨PL, 0, none⟩) 2 2, .agg (stepV 7 F kb b h).toArray] w (DoneP w B PL) := by
  obtain ⟨S, hS⟩ : ∃ S, w.heap.size = S := ⟨_, rfl⟩
  obtain ⟨sv, hsv⟩ : ∃ sv, (stepV 7 F kb b h).toArray = sv := ⟨_, rfl⟩
  obtain ⟨w1, hw1⟩ : ∃ w1, w.alloc (.cells sv 75) = w1 := ⟨_, rfl⟩
  have hw1s : w1.heap.size = S + 1 := by rw [← hw1, ← hS]; simp
  obtain ⟨w2, hw2⟩ : ∃ w2, w1.alloc (.cells #[.pointer none, .pointer none] 57) = w2 := ⟨_, rfl⟩
  have hb1 : Below w.heap.size w w1 := by rw [← hw1]; exact (Below.refl _ _).alloc (Nat.le_refl _) _
  have hb12 : Below w1.heap.size w1 w2 := by rw [← hw2]; exact (Below.refl _ _).alloc (Nat.le_refl _) _
  have hB2 : Hid (Below w.heap.size w w2) := Lib.hid (hb1.trans (hb12.mono hb1.size))
  have hS1 : w1.heap[S]? = some (.cells sv 75 (0, 0)) := by rw [← hw1, ← hS]; exact heap_alloc_new w _
  have hS2 : Hid (w2.heap[S]? = some (.cells sv 75 (0, 0))) := Lib.hid ((hb12.block S (by rw [hw1s]; omega)).trans hS1)
  have hP2 : Hid (w2.heap[S + 1]? = some (.cells #[.pointer none, .pointer none] 57 (0, 0))) := Lib.hid (by rw [← hw2, ← hw1s]; exact heap_alloc_new w1 _)
  have s0 : w1.cell? ⟨S, 0, none⟩ = some (.int .i64 7) := by rw [cell_of_row _ _ 0 _ _ _ hS1, ← hsv]; simp [stepV]
  have s1 : w1.cell? ⟨S, 1, none⟩ = some (.int .i64 F) := by rw [cell_of_row _ _ 1 _ _ _ hS1, ← hsv]; simp [stepV]
  have hr1 := Lib.hid ((L.below hb1).range hi)
  have L2 := Lib.hid (L.below hB2.out)
  have hBs : Hid (B ≤ w.heap.size) := Lib.hid (Nat.le_trans L.off (Nat.le_of_lt L.lt_))
  have hone : Hid ((#[PD.pp (D i), PD.qq (D i)] : Array Value).all (·.oneCell') = true) := Lib.hid (by cases D i <;> simp [PD.pp, PD.qq, Value.oneCell'])
  obtain ⟨pv, hpv⟩ : ∃ pv, PD.pp (D i) = pv := ⟨_, rfl⟩
  obtain ⟨qv, hqv⟩ : ∃ qv, PD.qq (D i) = qv := ⟨_, rfl⟩
  rw [hpv, hqv] at hr1 hone
  have hpv' := Lib.hid hpv
  have hqv' := Lib.hid hqv
  have hi2 : Hid ((Try.prog.info? 57).map (·.size) = some 2) := Lib.hid (by kernel_rfl)
  have hi32 : Hid ((Try.prog.info? 51).map (·.size) = some 32) := Lib.hid (by kernel_rfl)
  have hL0 := Lib.hid L
  have hsv' := Lib.hid hsv
  have hi' := Lib.hid hi
  have hSz := Lib.hid hS
  have hk' := Lib.hid hk
  have h256' := Lib.hid h256
  rw [hsv]
  have hDi' := Lib.hid hDi
  rw [hDi] at hpv hqv
  simp only [PD.pp, PD.qq] at hpv hqv
  subst hpv hqv
  clear L hb1 hb12 hS1 hk h256 hsv hDi
  go_enter Try.func35, Try.ntmps35
  go_wp2_with (first
    | (refine wpList_load_mid_g rfl 57 _ rfl PL (i * 2) rfl [.pointer none, .pointer none] _ hr1.out Try.underlying57 rfl hi2.out ?_; clear hr1)
    | (refine wpList_store_row rfl 57 _ _ rfl (S + 1) #[.pointer none, .pointer none] rfl rfl 57 _ hP2.out hi2.out rfl hone.out ?_
       obtain ⟨w3, hw3⟩ : ∃ w3, w2.setRow (S + 1) #[.pointer none, .pointer none] = w3 := ⟨_, rfl⟩
       have hP3 : Hid (w3.heap[S + 1]? = some (.cells #[.pointer none, .pointer none] 57 (0, 0))) := Lib.hid (by rw [← hw3]; exact setRow_heap w2 (S + 1) _ _ _ _ hP2.out)
       have hS3 : Hid (w3.heap[S]? = some (.cells sv 75 (0, 0))) := Lib.hid (by rw [← hw3, setRow_other _ _ _ _ (by omega)]; exact hS2.out)
       have hB3 : Hid (Below w.heap.size w w3) := Lib.hid (by rw [← hw3]; exact setRow_belowW hB2.out (by have := hSz.out; omega) _)
       have L3 := Lib.hid (hL0.out.below hB3.out)
       have k0 : w3.cell? ⟨S, 0, none⟩ = some (.int .i64 7) := by rw [cell_of_row _ _ 0 _ _ _ hS3.out, ← hsv'.out]; simp [stepV]
       have k34 : w3.cell? ⟨S, 34, none⟩ = some (.int .i64 b) := by rw [cell_of_row _ _ 34 _ _ _ hS3.out, ← hsv'.out]; simp [stepV, u8s, List.getElem?_append_right, hk'.out]
       have k35 : w3.cell? ⟨S, 35, none⟩ = some (.int .i64 h) := by rw [cell_of_row _ _ 35 _ _ _ hS3.out, ← hsv'.out]; simp [stepV, u8s, List.getElem?_append_right, hk'.out]
       have P0 : w3.cell? ⟨S + 1, 0, none⟩ = some (.pointer none) := cell_of_row _ _ 0 _ _ _ hP3.out
       have P1 : w3.cell? ⟨S + 1, 1, none⟩ = some (.pointer none) := cell_of_row _ _ 1 _ _ _ hP3.out
       rw [hw3]
       clear hw3 hone s0 s1 hP2 hS2 L2 hB2)
    | (go_at_call 22
       refine (bytes_no (.inl rfl)).mono ?_
       rintro e w4 ⟨rfl, rfl⟩))
  go_ret
  exact ⟨rfl, ⟨D, L3.out⟩, hB3.out.mono hBs.out⟩
set_option maxRecDepth 20000 in
set_option maxHeartbeats 4000000 in
theorem done_open1 {w : World} {B PL i : Nat} {D : Nat → Option PD} {d : PD} (hDi : D i = some d) (L : LAt w B PL D) (hi : i < 2) (F : Int) (hF : bits .and .i64 F 1 = (i : Int)) (kb : List Nat) (hk : kb.length = 32) (h256 : ∀ x ∈ kb, x < 256) (b h : Int) :
    Calls Try.prog 35 #[.slice (some ⟨PL, 0, none⟩) 2 2, .agg (stepV 7 F kb b h).toArray] w (DoneP w B PL) := by
  obtain ⟨S, hS⟩ : ∃ S, w.heap.size = S := ⟨_, rfl⟩
  obtain ⟨sv, hsv⟩ : ∃ sv, (stepV 7 F kb b h).toArray = sv := ⟨_, rfl⟩
  obtain ⟨w1, hw1⟩ : ∃ w1, w.alloc (.cells sv 75) = w1 := ⟨_, rfl⟩
  have hw1s : w1.heap.size = S + 1 := by rw [← hw1, ← hS]; simp
  obtain ⟨w2, hw2⟩ : ∃ w2, w1.alloc (.cells #[.pointer none, .pointer none] 57) = w2 := ⟨_, rfl⟩
  have hb1 : Below w.heap.size w w1 := by rw [← hw1]; exact (Below.refl _ _).alloc (Nat.le_refl _) _
  have hb12 : Below w1.heap.size w1 w2 := by rw [← hw2]; exact (Below.refl _ _).alloc (Nat.le_refl _) _
  have hB2 : Hid (Below w.heap.size w w2) := Lib.hid (hb1.trans (hb12.mono hb1.size))
  have hS1 : w1.heap[S]? = some (.cells sv 75 (0, 0)) := by rw [← hw1, ← hS]; exact heap_alloc_new w _
  have hS2 : Hid (w2.heap[S]? = some (.cells sv 75 (0, 0))) := Lib.hid ((hb12.block S (by rw [hw1s]; omega)).trans hS1)
  have hP2 : Hid (w2.heap[S + 1]? = some (.cells #[.pointer none, .pointer none] 57 (0, 0))) := Lib.hid (by rw [← hw2, ← hw1s]; exact heap_alloc_new w1 _)
  have s0 : w1.cell? ⟨S, 0, none⟩ = some (.int .i64 7) := by rw [cell_of_row _ _ 0 _ _ _ hS1, ← hsv]; simp [stepV]
  have s1 : w1.cell? ⟨S, 1, none⟩ = some (.int .i64 F) := by rw [cell_of_row _ _ 1 _ _ _ hS1, ← hsv]; simp [stepV]
  have hr1 := Lib.hid ((L.below hb1).range hi)
  have L2 := Lib.hid (L.below hB2.out)
  have hBs : Hid (B ≤ w.heap.size) := Lib.hid (Nat.le_trans L.off (Nat.le_of_lt L.lt_))
  have hone : Hid ((#[PD.pp (D i), PD.qq (D i)] : Array Value).all (·.oneCell') = true) := Lib.hid (by cases D i <;> simp [PD.pp, PD.qq, Value.oneCell'])
  obtain ⟨pv, hpv⟩ : ∃ pv, PD.pp (D i) = pv := ⟨_, rfl⟩
  obtain ⟨qv, hqv⟩ : ∃ qv, PD.qq (D i) = qv := ⟨_, rfl⟩
  rw [hpv, hqv] at hr1 hone
  have hpv' := Lib.hid hpv
  have hqv' := Lib.hid hqv
  have hi2 : Hid ((Try.prog.info? 57).map (·.size) = some 2) := Lib.hid (by kernel_rfl)
  have hi32 : Hid ((Try.prog.info? 51).map (·.size) = some 32) := Lib.hid (by kernel_rfl)
  have hL0 := Lib.hid L
  have hsv' := Lib.hid hsv
  have hi' := Lib.hid hi
  have hSz := Lib.hid hS
  have hk' := Lib.hid hk
  have h256' := Lib.hid h256
  rw [hsv]
  have hDi' := Lib.hid hDi
  rw [hDi] at hpv hqv
  simp only [PD.pp, PD.qq] at hpv hqv
  subst hpv hqv
  clear L hb1 hb12 hS1 hk h256 hsv hDi
  go_enter Try.func35, Try.ntmps35
  obtain ⟨L, hL⟩ : ∃ L, Hid (fBy d.h d.l = L) := ⟨_, Lib.hid rfl⟩
  obtain ⟨SL, hSL⟩ : ∃ SL, strB L = SL := ⟨_, rfl⟩
  obtain ⟨LN, hLn⟩ : ∃ LN, Hid (L.length = LN) := ⟨_, Lib.hid rfl⟩
  have hL256 : Hid (∀ x ∈ L, x < 256) := Lib.hid (by
    rw [← hL.out]
    intro x hx
    exact fBy_lt _ _ x hx)
  go_wp2_with (first
    | (refine wpList_load_mid_g rfl 57 _ rfl PL (i * 2) rfl [.pointer (some ⟨d.g, 0, none⟩), .pointer (some ⟨d.r, 0, none⟩)] _ hr1.out Try.underlying57 rfl hi2.out ?_; clear hr1)
    | (refine wpList_store_row rfl 57 _ _ rfl (S + 1) #[.pointer (some ⟨d.g, 0, none⟩), .pointer (some ⟨d.r, 0, none⟩)] rfl rfl 57 _ hP2.out hi2.out rfl hone.out ?_
       obtain ⟨w3, hw3⟩ : ∃ w3, w2.setRow (S + 1) #[.pointer (some ⟨d.g, 0, none⟩), .pointer (some ⟨d.r, 0, none⟩)] = w3 := ⟨_, rfl⟩
       have hP3 : Hid (w3.heap[S + 1]? = some (.cells #[.pointer (some ⟨d.g, 0, none⟩), .pointer (some ⟨d.r, 0, none⟩)] 57 (0, 0))) := Lib.hid (by rw [← hw3]; exact setRow_heap w2 (S + 1) _ _ _ _ hP2.out)
       have hS3 : Hid (w3.heap[S]? = some (.cells sv 75 (0, 0))) := Lib.hid (by rw [← hw3, setRow_other _ _ _ _ (by omega)]; exact hS2.out)
       have hB3 : Hid (Below w.heap.size w w3) := Lib.hid (by rw [← hw3]; exact setRow_belowW hB2.out (by have := hSz.out; omega) _)
       have L3 := Lib.hid (hL0.out.below hB3.out)
       have k0 : w3.cell? ⟨S, 0, none⟩ = some (.int .i64 7) := by rw [cell_of_row _ _ 0 _ _ _ hS3.out, ← hsv'.out]; simp [stepV]
       have k34 : w3.cell? ⟨S, 34, none⟩ = some (.int .i64 b) := by rw [cell_of_row _ _ 34 _ _ _ hS3.out, ← hsv'.out]; simp [stepV, u8s, List.getElem?_append_right, hk'.out]
       have k35 : w3.cell? ⟨S, 35, none⟩ = some (.int .i64 h) := by rw [cell_of_row _ _ 35 _ _ _ hS3.out, ← hsv'.out]; simp [stepV, u8s, List.getElem?_append_right, hk'.out]
       have P0 : w3.cell? ⟨S + 1, 0, none⟩ = some (.pointer (some ⟨d.g, 0, none⟩)) := cell_of_row _ _ 0 _ _ _ hP3.out
       have P1 : w3.cell? ⟨S + 1, 1, none⟩ = some (.pointer (some ⟨d.r, 0, none⟩)) := cell_of_row _ _ 1 _ _ _ hP3.out
       rw [hw3]
       clear hw3 hone s0 s1 hP2 hS2 L2 hB2)
    | (go_at_call 22
       have hp3 : PairAt w3 B (some d) := by have := L3.out.pair hi'.out; rw [hDi'.out] at this; exact this
       have hby := fbytes_any hp3.1
       rw [hL.out] at hby
       unfold FByP at hby
       rw [hLn.out] at hby
       refine hby.mono ?_
       rintro e w8 ⟨⟨A8, c8, rfl, o8⟩, b8⟩
       have o8' := Lib.hid o8
       have b38 := Lib.hid b8
       have hlt3 := lt_of_block hP3.out
       have P18 := Lib.hid ((b8.cell (p := ⟨S + 1, 1, none⟩) hlt3).trans P1)
       have P1w := P18.out
       have k08 := Lib.hid ((b8.cell (p := ⟨S, 0, none⟩) (by show S < _; omega)).trans k0)
       have hlt : Hid (S + 1 < w8.heap.size ∧ S < w8.heap.size) := Lib.hid (by have := b8.size; omega)
       have L8 := Lib.hid (L3.out.below b8)
       have B8 := Lib.hid (hB3.out.trans (b8.mono hB3.out.size))
       clear o8 b8 hby hp3 P0 P1 k0 k34 k35 hlt3))
  have hd : Hid (Below w8.heap.size w8 (World.drew w8)) := Lib.hid (below_drewN (Below.refl _ _) 1)
  have hrb : Hid (Calls Try.prog 67 #[.pointer (some ⟨d.r, 0, none⟩)] (World.drew w8) (FByP (World.drew w8) L)) := Lib.hid (by
    have hp := (L8.out.below hd.out).pair hi'.out
    rw [hDi'.out] at hp
    have := rbytes_any hp.2
    rw [hL.out] at this
    exact this)
  unfold FByP at hrb
  rw [hLn.out] at hrb
  clear P1w
  refine wp_region_held (S := fun W => Below w8.heap.size w8 W) (by kernel_rfl) ?_
  change wpAnyH _ _ _ _ _ _ _ _ (World.drew _)
  refine tk (i := 0) (d := 95) (v := .slice A8 LN c8) rfl rfl (Or.inl ⟨by rfl, by intro W hW; clear hW; go_simp⟩) hd.out ?_
  simp only [List.setIfInBounds_toArray, List.set_cons_zero, List.set_cons_succ]
  refine tk (i := 1) (d := 96) (v := .string SL) rfl rfl (Or.inl ⟨by rfl, by intro W hW; have hcw := conv_bytes W L A8 c8 _ ((o8'.out.below hW fun k hk => (o8'.out.lt k hk).2).byt) hL256.out; rw [hLn.out, hSL] at hcw; clear hW; go_simp⟩) hd.out ?_
  simp only [List.setIfInBounds_toArray, List.set_cons_zero, List.set_cons_succ]
  refine tk (i := 2) (d := 97) (v := .pointer (some ⟨S + 1, 1, none⟩)) rfl rfl (Or.inl ⟨by rfl, by intro W hW; clear hW; go_simp⟩) hd.out ?_
  simp only [List.setIfInBounds_toArray, List.set_cons_zero, List.set_cons_succ]
  refine tk (i := 3) (d := 98) (v := .pointer (some ⟨d.r, 0, none⟩)) rfl rfl (Or.inl ⟨by rfl, by intro W hW; have p1 := (hW.cell (p := ⟨S + 1, 1, none⟩) hlt.out.1).trans P18.out; clear hW; go_simp⟩) hd.out ?_
  simp only [List.setIfInBounds_toArray, List.set_cons_zero, List.set_cons_succ]
  refine wpAnyH_ready (rs := [4]) (by kernel_rfl) (by simp) ?_
  refine AllReadyH.cons rfl (fun K hK => ?_) AllReadyH.nil
  go_simp
  refine hrb.out.mono ?_
  rintro e w9 ⟨⟨A9, c9, rfl, o9⟩, b9⟩
  have o9' := Lib.hid o9
  have hs9 := Lib.hid (hd.out.trans (b9.mono hd.out.size))
  clear o9 b9 hrb
  refine hK.out _ _ hs9.out (fun _ => ?_)
  clear hK K
  refine wpAnyH_ready (rs := [5]) (by kernel_rfl) (by simp) ?_
  refine AllReadyH.cons rfl (fun K hK => ?_) AllReadyH.nil
  have hcv := conv_bytes _ L A9 c9 _ o9'.out.byt hL256.out
  rw [hLn.out, hSL] at hcv
  go_simp
  clear hcv
  refine hK.out _ _ hs9.out (fun _ => ?_)
  clear hK K
  refine tk (i := 6) (d := 101) (v := .bool false) rfl rfl (Or.inl ⟨by rfl, by intro W hW; clear hW; go_simp⟩) hs9.out ?_
  simp only [List.setIfInBounds_toArray, List.set_cons_zero, List.set_cons_succ]
  refine wpAnyH_done (by kernel_rfl) ?_ _
  have k9 := (hs9.out.cell (p := ⟨S, 0, none⟩) hlt.out.2).trans k08.out
  have o89 := Lib.hid (o8'.out.below hs9.out fun k hk => (o8'.out.lt k hk).2)
  have hpw := Lib.hid (show PairAt w8 B (some d) from by have := L8.out.pair hi'.out; rw [hDi'.out] at this; exact this)
  have hop : Hid (Calls Try.prog 20 #[.slice A8 LN c8] w9 fun e w' => (∃ g A c, e = .returned (.tuple #[.pointer (some ⟨g, 0, none⟩), .int .i64 0]) ∧ Flt w' w9.heap.size g A c d.l d.h) ∧ Below w9.heap.size w9 w') := Lib.hid (reopen_any w9 A8 d.h d.l LN c8 (by rw [hL.out]; exact hLn.out) (by rw [hL.out]; exact o89.out.byt) hpw.out.1.h1 hpw.out.1.h16 hpw.out.1.n1 hpw.out.1.nm hpw.out.1.lt)
  have hLN0 : Hid (3 ≤ LN) := Lib.hid (by rw [← hLn.out, ← hL.out, fBy_length]; omega)
  have hLNb : LN ≤ 140737488355328 := by
    rw [← hLn.out, ← hL.out, fBy_length]
    have := hpw.out.1.nm
    omega
  obtain ⟨a8, hA8⟩ := o89.out.head (by have := hLN0.out; omega)
  subst hA8
  go_wp2_with (go_at_call 20; refine hop.out.mono ?_; rintro e wa ⟨⟨ga, Aa0, ca, rfl, fa⟩, ba⟩; obtain ⟨Aa, eA, _⟩ := fa.at; subst eA; have fa' := Lib.hid fa; have ba' := Lib.hid (hs9.out.trans (ba.mono hs9.out.size)); have oa := Lib.hid (o89.out.below ba fun k hk => (o89.out.lt k hk).2); have hab : Hid (w3.heap.size ≤ a8 ∧ a8 < w9.heap.size ∧ w8.heap.size ≤ w9.heap.size ∧ w3.heap.size ≤ w8.heap.size) := Lib.hid ⟨(o89.out.lt a8 rfl).1, (o89.out.lt a8 rfl).2, hs9.out.size, b38.out.size⟩; clear fa ba hop o89 k9)
  have Ba : Hid (Below w3.heap.size w3 wa) := Lib.hid (b38.out.trans (ba'.out.mono b38.out.size))
  go_loopw [10] (fun iv wr => ∃ (t : Nat) (m : List Nat), t ≤ LN ∧ iv = .int .i64 (t : Int) ∧ Hid (m.length = LN) ∧ Hid (∀ x ∈ m, x < 256) ∧ Hid (Own wr w3.heap.size 5 1 (some ⟨a8, 0, none⟩) LN c8 (u8s m)) ∧ Hid (Flt wr w9.heap.size ga (some ⟨Aa, 0, none⟩) ca d.l d.h) ∧ Hid (Below w3.heap.size w3 wr)) (fun iv _ => LN - (intOf iv).toNat)
  case atStart => exact ⟨0, L, by omega, rfl, hLn, hL256, oa, fa', Ba⟩
  case round =>
    clear oa fa' Ba ba'
    obtain ⟨t, m, htn, rfl, hml, hm256, ho1, hf, hbel⟩ := hrel
    by_cases hltt : t < LN
    · obtain ⟨x, hx⟩ : ∃ x, Hid (m[t]? = some x) := ⟨_, Lib.hid (List.getElem?_eq_getElem (by rw [hml.out]; exact hltt))⟩
      have hx256 : x < 256 := hm256.out x (List.mem_of_getElem? hx.out)
      have co := ho1.out.cell t (by omega)
      have hu : (u8s m)[t]? = some (.int .u8 (x : Int)) := by simp [u8s, hx.out]
      rw [hu] at co
      have fo := ho1.out.frozen t
      obtain ⟨y, hy⟩ : ∃ y, x ^^^ 255 = y := ⟨_, rfl⟩
      have hyx : bits .xor .u8 (x : Int) 255 = (y : Int) := by rw [← hy]; exact u8_xor_nat x 255 hx256 (by decide)
      have hy256 : y < 256 := by rw [← hy]; exact Nat.xor_lt_two_pow (n := 8) hx256 (by decide)
      have hms : Hid (∀ z ∈ m.set t y, z < 256) := Lib.hid fun z hz => by
        rcases List.mem_or_eq_of_mem_set hz with h | h
        · exact hm256.out z h
        · rw [h]
          exact hy256
      have hfr := Lib.hid (Fr.of_grown (ho1.out.set_grown t (.int .u8 (y : Int))))
      clear hu hy
      go_wp2_with fail
      go_roundw
      case rel => exact ⟨t + 1, m.set t y, by omega, by go_num, Lib.hid (by rw [List.length_set]; exact hml.out), hms, Lib.hid (by have := ho1.out.set t (.int .u8 (y : Int)); rwa [show (u8s m).set t (.int .u8 (y : Int)) = u8s (m.set t y) by simp [u8s, List.map_set]] at this), Lib.hid (hf.out.fr hfr.out (fun q => by injection q with q; have := hab.out; have := hf.out.gB; omega) (fun k hk q => by injection q with q; injection hk with hk; have hk : Aa = k := hk; have := hab.out; have := hf.out.off; omega)), Lib.hid (hbel.out.trans (hfr.out.below hbel.out.size (fun k hk q => by injection q with q; have := hab.out; omega)))⟩
      case measure => simp [intOf]; omega
    · have Lz := Lib.hid (L3.out.below hbel.out)
      have e1 : wr.cell? ⟨PL, i * 2, none⟩ = some (PD.pp (D i)) := Lz.out.range hi'.out 0 _ rfl
      have f1 := Lz.out.fz (i * 2)
      go_wp2_with fail
      go_ret
      have hz3 : B ≤ w3.heap.size := Nat.le_trans hBs.out hB3.out.size
      have hpz : PairAt wr B (some d) := by have := Lz.out.pair hi'.out; rw [hDi'.out] at this; exact this
      have hap : Apart (some ⟨ga, Aa, ca, d.r, d.b, d.cb, d.l, d.h⟩) (D (1 - i)) := by
        cases hD1 : D (1 - i) with
        | none => trivial
        | some e =>
          have l1 := (hD1 ▸ L3.out.pair (i := 1 - i) (by omega) : PairAt w3 B (some e)).lt
          have ap0 : Apart (D i) (D (1 - i)) := by
            rcases two hi'.out with e | e
            · subst e
              exact L3.out.ap
            · subst e
              exact L3.out.ap.symm
          rw [hDi'.out, hD1] at ap0
          have := hab.out
          have := hf.out.off
          exact ⟨by show Aa ≠ e.A; omega, ap0.2.1, ap0.2.2⟩
      have LL := Lz.out.putF hi'.out (d' := some ⟨ga, Aa, ca, d.r, d.b, d.cb, d.l, d.h⟩) ⟨hf.out.base (by have := hab.out; omega), hpz.2⟩ (by rw [hDi'.out]; rfl) hap
      refine ⟨rfl, ⟨_, LL⟩, ?_⟩
      exact ((hB3.out.trans (hbel.out.mono hB3.out.size)).mono hBs.out).trans ((Fr.setCell wr ⟨PL, i * 2, none⟩ _).below (Nat.le_trans hz3 hbel.out.size) (fun k hk q => by have := Lz.out.off; have q : k = PL := q; omega))
end Go.Proofs.Ytlghgfnkckaebaa
