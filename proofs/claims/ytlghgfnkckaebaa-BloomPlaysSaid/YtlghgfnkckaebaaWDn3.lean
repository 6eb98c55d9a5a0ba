/- The law's done: Join, Meet. (Printed by tools/genwdone.py.) -/
import Derived.Test.YtlghgfnkckaebaaWDn1
import Derived.Deep.RegionHeld3
namespace Go.Proofs.Ytlghgfnkckaebaa
open Go.RowKit
set_option linter.unusedSimpArgs false
set_option linter.unusedVariables false

set_option maxRecDepth 20000 in
set_option maxHeartbeats 4000000 in
theorem done_join {w : World} {B PL i : Nat} {D : Nat → Option PD} (L : LAt w B PL D) (hi : i < 2) (F : Int) (hF : bits .and .i64 F 1 = (i : Int)) (kb : List Nat) (hk : kb.length = 32) (h256 : ∀ x ∈ kb, x < 256) (b h : Int) :
    Calls Try.prog 35 #[.slice (some ⟨PL, 0, none⟩) 2 2, .agg (stepV 3 F kb b h).toArray] w (DoneP w B PL) := by
  obtain ⟨S, hS⟩ : ∃ S, w.heap.size = S := ⟨_, rfl⟩
  obtain ⟨sv, hsv⟩ : ∃ sv, (stepV 3 F kb b h).toArray = sv := ⟨_, rfl⟩
  obtain ⟨w1, hw1⟩ : ∃ w1, w.alloc (.cells sv 75) = w1 := ⟨_, rfl⟩
  have hw1s : w1.heap.size = S + 1 := by rw [← hw1, ← hS]; simp
  obtain ⟨w2, hw2⟩ : ∃ w2, w1.alloc (.cells #[.pointer none, .pointer none] 57) = w2 := ⟨_, rfl⟩
  have hb1 : Below w.heap.size w w1 := by rw [← hw1]; exact (Below.refl _ _).alloc (Nat.le_refl _) _
  have hb12 : Below w1.heap.size w1 w2 := by rw [← hw2]; exact (Below.refl _ _).alloc (Nat.le_refl _) _
  have hB2 : Hid (Below w.heap.size w w2) := Lib.hid (hb1.trans (hb12.mono hb1.size))
  have hS1 : w1.heap[S]? = some (.cells sv 75 (0, 0)) := by rw [← hw1, ← hS]; exact heap_alloc_new w _
  have hS2 : Hid (w2.heap[S]? = some (.cells sv 75 (0, 0))) := Lib.hid ((hb12.block S (by rw [hw1s]; omega)).trans hS1)
  have hP2 : Hid (w2.heap[S + 1]? = some (.cells #[.pointer none, .pointer none] 57 (0, 0))) := Lib.hid (by rw [← hw2, ← hw1s]; exact heap_alloc_new w1 _)
  have s0 : w1.cell? ⟨S, 0, none⟩ = some (.int .i64 3) := by rw [cell_of_row _ _ 0 _ _ _ hS1, ← hsv]; simp [stepV]
  have s1 : w1.cell? ⟨S, 1, none⟩ = some (.int .i64 F) := by rw [cell_of_row _ _ 1 _ _ _ hS1, ← hsv]; simp [stepV]
  have hr1 := Lib.hid ((L.below hb1).range hi)
  have L2 := Lib.hid (L.below hB2.out)
  have hBs : Hid (B ≤ w.heap.size) := Lib.hid (Nat.le_trans L.off (Nat.le_of_lt L.lt_))
  have hone : Hid ((#[PD.pp (D i), PD.qq (D i)] : Array Value).all (·.oneCell') = true) := Lib.hid (by cases D i <;> simp [PD.pp, PD.qq, Value.oneCell'])
  obtain ⟨pv, hpv⟩ : ∃ pv, PD.pp (D i) = pv := ⟨_, rfl⟩
  obtain ⟨qv, hqv⟩ : ∃ qv, PD.qq (D i) = qv := ⟨_, rfl⟩
  rw [hpv, hqv] at hr1 hone
  have hpv' := Lib.hid hpv
  have hqv' := Lib.hid hqv
  have hi2 : Hid ((Try.prog.info? 57).map (·.size) = some 2) := Lib.hid (by kernel_rfl)
  have hi32 : Hid ((Try.prog.info? 51).map (·.size) = some 32) := Lib.hid (by kernel_rfl)
  have hL0 := Lib.hid L
  have hsv' := Lib.hid hsv
  have hi' := Lib.hid hi
  have hSz := Lib.hid hS
  have hk' := Lib.hid hk
  have h256' := Lib.hid h256
  rw [hsv]
  clear L hb1 hb12 hS1 hk h256 hpv hqv hsv
  go_enter Try.func35, Try.ntmps35
  go_wp2_with (first
    | (refine wpList_load_mid_g rfl 57 _ rfl PL (i * 2) rfl [pv, qv] _ hr1.out Try.underlying57 rfl hi2.out ?_; clear hr1)
    | (refine wpList_store_row rfl 57 _ _ rfl (S + 1) #[pv, qv] rfl rfl 57 _ hP2.out hi2.out rfl hone.out ?_
       obtain ⟨w3, hw3⟩ : ∃ w3, w2.setRow (S + 1) #[pv, qv] = w3 := ⟨_, rfl⟩
       have hP3 : Hid (w3.heap[S + 1]? = some (.cells #[pv, qv] 57 (0, 0))) := Lib.hid (by rw [← hw3]; exact setRow_heap w2 (S + 1) _ _ _ _ hP2.out)
       have hS3 : Hid (w3.heap[S]? = some (.cells sv 75 (0, 0))) := Lib.hid (by rw [← hw3, setRow_other _ _ _ _ (by omega)]; exact hS2.out)
       have hB3 : Hid (Below w.heap.size w w3) := Lib.hid (by rw [← hw3]; exact setRow_belowW hB2.out (by have := hSz.out; omega) _)
       have L3 := Lib.hid (hL0.out.below hB3.out)
       have k0 : w3.cell? ⟨S, 0, none⟩ = some (.int .i64 3) := by rw [cell_of_row _ _ 0 _ _ _ hS3.out, ← hsv'.out]; simp [stepV]
       have k34 : w3.cell? ⟨S, 34, none⟩ = some (.int .i64 b) := by rw [cell_of_row _ _ 34 _ _ _ hS3.out, ← hsv'.out]; simp [stepV, u8s, List.getElem?_append_right, hk'.out]
       have k35 : w3.cell? ⟨S, 35, none⟩ = some (.int .i64 h) := by rw [cell_of_row _ _ 35 _ _ _ hS3.out, ← hsv'.out]; simp [stepV, u8s, List.getElem?_append_right, hk'.out]
       have P0 : w3.cell? ⟨S + 1, 0, none⟩ = some (pv) := cell_of_row _ _ 0 _ _ _ hP3.out
       have P1 : w3.cell? ⟨S + 1, 1, none⟩ = some (qv) := cell_of_row _ _ 1 _ _ _ hP3.out
       rw [hw3]
       clear hw3 hone s0 s1 hP2 hS2 L2 hB2))
  obtain ⟨j, hj⟩ : ∃ j, 1 - i = j := ⟨_, rfl⟩
  have hij : (1 : Int) - (i : Int) = (j : Int) := by omega
  have hj2 : j < 2 := by omega
  have hj' := Lib.hid hj2
  obtain ⟨pv2, hpv2⟩ : ∃ pv2, PD.pp (D j) = pv2 := ⟨_, rfl⟩
  obtain ⟨qv2, hqv2⟩ : ∃ qv2, PD.qq (D j) = qv2 := ⟨_, rfl⟩
  have hpq2 := Lib.hid (And.intro hpv2 hqv2)
  have hap : Hid (Apart (D i) (D j)) := Lib.hid (by
    rcases two hi'.out with e | e
    · subst e
      rw [show j = 1 by omega]
      exact L3.out.ap
    · subst e
      rw [show j = 0 by omega]
      exact L3.out.ap.symm)
  obtain ⟨wr0, hwr0⟩ : ∃ wr0, World.drew w3 = wr0 := ⟨_, rfl⟩
  have hbr : Hid (Below w3.heap.size w3 wr0) := Lib.hid (by rw [← hwr0]; exact below_drewN (Below.refl _ _) 1)
  have Lr := Lib.hid (L3.out.below hbr.out)
  have Br := Lib.hid (hB3.out.trans (hbr.out.mono hB3.out.size))
  have hlt : Hid (S + 1 < wr0.heap.size ∧ S < wr0.heap.size) := Lib.hid (by
    have l2 := lt_of_block hP3.out
    have l3 := hbr.out.size
    omega)
  have hd : Hid (wr0.rangeAt (S + 1) 0 [pv, qv] ∧ wr0.rangeAt PL (j * 2) [pv2, qv2] ∧ wr0.cell? ⟨S, 0, none⟩ = some (.int .i64 3)) := Lib.hid (by
    have hr2 := Lr.out.range hj2
    rw [hpv2, hqv2] at hr2
    refine ⟨fun t v hv => ?_, hr2, by rw [← hwr0]; exact k0⟩
    rw [← hwr0]
    exact (cell_of_row w3 (S + 1) (0 + t) _ _ _ hP3.out).trans (by rw [Nat.zero_add]; simpa using hv))
  have hjw : IntKind.i64.wrap (j : Int) = (j : Int) := by rw [IntKind.wrap_i64]; omega
  clear hpv2 hqv2 hj
  refine wp_region_held (S := fun W => W.rangeAt (S + 1) 0 [pv, qv] ∧ W.rangeAt PL (j * 2) [pv2, qv2] ∧ W.cell? ⟨S, 0, none⟩ = some (.int .i64 3)) (by kernel_rfl) ?_
  change wpAnyH _ _ _ _ _ _ _ _ (World.drew _)
  rw [hwr0]
  clear hwr0
  refine tk (i := 0) (d := 69) (v := .agg #[pv, qv]) rfl rfl (yieldsIf_load_mid rfl 57 _ rfl (S + 1) 0 rfl [pv, qv] _ (fun W hW => hW.1) Try.underlying57 rfl hi2.out) hd.out ?_
  simp only [List.setIfInBounds_toArray, List.set_cons_zero, List.set_cons_succ]
  refine tk (i := 1) (d := 70) (v := .slice (some ⟨PL, 0, none⟩) 2 2) rfl rfl (Or.inl ⟨by rfl, by intro W hW; clear hW; go_simp⟩) hd.out ?_
  simp only [List.setIfInBounds_toArray, List.set_cons_zero, List.set_cons_succ]
  refine tk (i := 2) (d := 71) (v := .int .i64 (i : Int)) rfl rfl (Or.inl ⟨by rfl, by intro W hW; clear hW; go_simp⟩) hd.out ?_
  simp only [List.setIfInBounds_toArray, List.set_cons_zero, List.set_cons_succ]
  refine tk (i := 3) (d := 72) (v := .int .i64 (j : Int)) rfl rfl (Or.inl ⟨by rfl, by intro W hW; clear hW; go_simp⟩) hd.out ?_
  simp only [List.setIfInBounds_toArray, List.set_cons_zero, List.set_cons_succ]
  refine tk (i := 4) (d := 73) (v := .pointer (some ⟨PL, j * 2, none⟩)) rfl rfl (Or.inl ⟨by rfl, by intro W hW; clear hW; go_simp; intro hq; omega⟩) hd.out ?_
  simp only [List.setIfInBounds_toArray, List.set_cons_zero, List.set_cons_succ]
  refine tk (i := 5) (d := 74) (v := .agg #[pv2, qv2]) rfl rfl (yieldsIf_load_mid rfl 57 _ rfl PL (j * 2) rfl [pv2, qv2] _ (fun W hW => hW.2.1) Try.underlying57 rfl hi2.out) hd.out ?_
  simp only [List.setIfInBounds_toArray, List.set_cons_zero, List.set_cons_succ]
  refine tk (i := 6) (d := 75) (v := .pointer (some ⟨S, 0, none⟩)) rfl rfl (Or.inl ⟨by rfl, by intro W hW; clear hW; go_simp⟩) hd.out ?_
  simp only [List.setIfInBounds_toArray, List.set_cons_zero, List.set_cons_succ]
  refine tk (i := 7) (d := 76) (v := .int .i64 3) rfl rfl (Or.inl ⟨by rfl, by intro W hW; have q2 := hW.2.2; clear hW; go_simp⟩) hd.out ?_
  simp only [List.setIfInBounds_toArray, List.set_cons_zero, List.set_cons_succ]
  refine tk (i := 8) (d := 77) (v := .bool false) rfl rfl (Or.inl ⟨by rfl, by intro W hW; clear hW; go_simp⟩) hd.out ?_
  simp only [List.setIfInBounds_toArray, List.set_cons_zero, List.set_cons_succ]
  refine wpAnyH_ready (rs := [9]) (by kernel_rfl) (by simp) ?_
  refine AllReadyH.cons rfl (fun K hK => ?_) AllReadyH.nil
  go_simp
  have hw := with_joinL (Lr.out.pair hi'.out) (Lr.out.pair hj'.out) hap.out
  rw [hpv'.out, hqv'.out, hpq2.out.1, hpq2.out.2] at hw
  refine hw.mono ?_
  unfold StepP
  rintro e w5 ⟨rfl, d', hp', hq', hpd, hfr, hnr⟩
  have LL := Lib.hid (Lr.out.step hi'.out hpd (hp'.trans rfl) (hq'.trans rfl) hfr hnr)
  have BB := Lib.hid ((Br.out.mono hBs.out).trans (Lr.out.below_of hi'.out hfr))
  have hs5 : Hid (w5.rangeAt (S + 1) 0 [pv, qv] ∧ w5.rangeAt PL (j * 2) [pv2, qv2] ∧ w5.cell? ⟨S, 0, none⟩ = some (.int .i64 3)) := Lib.hid (by
    have nm : ∀ k, (k = S ∨ k = S + 1 ∨ k = PL) → ¬ Mut (D i) k := fun k hk q => by
      rcases hk with hk | hk | hk
      · have := (Mut.off (hL0.out.pair hi'.out) q).2; have := hSz.out; omega
      · have := (Mut.off (hL0.out.pair hi'.out) q).2; have := hSz.out; omega
      · exact Mut.typ (Lr.out.pair hi'.out) q (by rw [hk]; exact Lr.out.ty)
    exact ⟨fun t v hv => (World.cell?_of_block (a := ⟨S + 1, 0 + t, none⟩) (hfr.block (S + 1) hlt.out.1 (nm _ (.inr (.inl rfl))))).trans (hd.out.1 t v hv), fun t v hv => (World.cell?_of_block (a := ⟨PL, j * 2 + t, none⟩) (hfr.block PL Lr.out.lt_ (nm _ (.inr (.inr rfl))))).trans (hd.out.2.1 t v hv), (World.cell?_of_block (a := ⟨S, 0, none⟩) (hfr.block S hlt.out.2 (nm _ (.inl rfl)))).trans hd.out.2.2⟩)
  clear hw hpd hfr hnr hq' hp'
  refine hK.out _ _ hs5.out (fun _ => ?_)
  clear hK K
  refine tk (i := 10) (d := 4) (v := .bool true) rfl rfl (Or.inl ⟨by rfl, by intro W hW; clear hW; go_simp⟩) hs5.out ?_
  simp only [List.setIfInBounds_toArray, List.set_cons_zero, List.set_cons_succ]
  refine wpAnyH_done (by kernel_rfl) ?_ _
  go_wp2_with fail
  go_ret
  exact ⟨rfl, ⟨_, LL.out⟩, BB.out⟩
set_option maxRecDepth 20000 in
set_option maxHeartbeats 4000000 in
theorem done_meet {w : World} {B PL i : Nat} {D : Nat → Option PD} (L : LAt w B PL D) (hi : i < 2) (F : Int) (hF : bits .and .i64 F 1 = (i : Int)) (kb : List Nat) (hk : kb.length = 32) (h256 : ∀ x ∈ kb, x < 256) (b h : Int) :
    Calls Try.prog 35 #[.slice (some ⟨PL, 0, none⟩) 2 2, .agg (stepV 4 F kb b h).toArray] w (DoneP w B PL) := by
  obtain ⟨S, hS⟩ : ∃ S, w.heap.size = S := ⟨_, rfl⟩
  obtain ⟨sv, hsv⟩ : ∃ sv, (stepV 4 F kb b h).toArray = sv := ⟨_, rfl⟩
  obtain ⟨w1, hw1⟩ : ∃ w1, w.alloc (.cells sv 75) = w1 := ⟨_, rfl⟩
  have hw1s : w1.heap.size = S + 1 := by rw [← hw1, ← hS]; simp
  obtain ⟨w2, hw2⟩ : ∃ w2, w1.alloc (.cells #[.pointer none, .pointer none] 57) = w2 := ⟨_, rfl⟩
  have hb1 : Below w.heap.size w w1 := by rw [← hw1]; exact (Below.refl _ _).alloc (Nat.le_refl _) _
  have hb12 : Below w1.heap.size w1 w2 := by rw [← hw2]; exact (Below.refl _ _).alloc (Nat.le_refl _) _
  have hB2 : Hid (Below w.heap.size w w2) := Lib.hid (hb1.trans (hb12.mono hb1.size))
  have hS1 : w1.heap[S]? = some (.cells sv 75 (0, 0)) := by rw [← hw1, ← hS]; exact heap_alloc_new w _
  have hS2 : Hid (w2.heap[S]? = some (.cells sv 75 (0, 0))) := Lib.hid ((hb12.block S (by rw [hw1s]; omega)).trans hS1)
  have hP2 : Hid (w2.heap[S + 1]? = some (.cells #[.pointer none, .pointer none] 57 (0, 0))) := Lib.hid (by rw [← hw2, ← hw1s]; exact heap_alloc_new w1 _)
  have s0 : w1.cell? ⟨S, 0, none⟩ = some (.int .i64 4) := by rw [cell_of_row _ _ 0 _ _ _ hS1, ← hsv]; simp [stepV]
  have s1 : w1.cell? ⟨S, 1, none⟩ = some (.int .i64 F) := by rw [cell_of_row _ _ 1 _ _ _ hS1, ← hsv]; simp [stepV]
  have hr1 := Lib.hid ((L.below hb1).range hi)
  have L2 := Lib.hid (L.below hB2.out)
  have hBs : Hid (B ≤ w.heap.size) := Lib.hid (Nat.le_trans L.off (Nat.le_of_lt L.lt_))
  have hone : Hid ((#[PD.pp (D i), PD.qq (D i)] : Array Value).all (·.oneCell') = true) := Lib.hid (by cases D i <;> simp [PD.pp, PD.qq, Value.oneCell'])
  obtain ⟨pv, hpv⟩ : ∃ pv, PD.pp (D i) = pv := ⟨_, rfl⟩
  obtain ⟨qv, hqv⟩ : ∃ qv, PD.qq (D i) = qv := ⟨_, rfl⟩
  rw [hpv, hqv] at hr1 hone
  have hpv' := Lib.hid hpv
  have hqv' := Lib.hid hqv
  have hi2 : Hid ((Try.prog.info? 57).map (·.size) = some 2) := Lib.hid (by kernel_rfl)
  have hi32 : Hid ((Try.prog.info? 51).map (·.size) = some 32) := Lib.hid (by kernel_rfl)
  have hL0 := Lib.hid L
  have hsv' := Lib.hid hsv
  have hi' := Lib.hid hi
  have hSz := Lib.hid hS
  have hk' := Lib.hid hk
  have h256' := Lib.hid h256
  rw [hsv]
  clear L hb1 hb12 hS1 hk h256 hpv hqv hsv
  go_enter Try.func35, Try.ntmps35
  go_wp2_with (first
    | (refine wpList_load_mid_g rfl 57 _ rfl PL (i * 2) rfl [pv, qv] _ hr1.out Try.underlying57 rfl hi2.out ?_; clear hr1)
    | (refine wpList_store_row rfl 57 _ _ rfl (S + 1) #[pv, qv] rfl rfl 57 _ hP2.out hi2.out rfl hone.out ?_
       obtain ⟨w3, hw3⟩ : ∃ w3, w2.setRow (S + 1) #[pv, qv] = w3 := ⟨_, rfl⟩
       have hP3 : Hid (w3.heap[S + 1]? = some (.cells #[pv, qv] 57 (0, 0))) := Lib.hid (by rw [← hw3]; exact setRow_heap w2 (S + 1) _ _ _ _ hP2.out)
       have hS3 : Hid (w3.heap[S]? = some (.cells sv 75 (0, 0))) := Lib.hid (by rw [← hw3, setRow_other _ _ _ _ (by omega)]; exact hS2.out)
       have hB3 : Hid (Below w.heap.size w w3) := Lib.hid (by rw [← hw3]; exact setRow_belowW hB2.out (by have := hSz.out; omega) _)
       have L3 := Lib.hid (hL0.out.below hB3.out)
       have k0 : w3.cell? ⟨S, 0, none⟩ = some (.int .i64 4) := by rw [cell_of_row _ _ 0 _ _ _ hS3.out, ← hsv'.out]; simp [stepV]
       have k34 : w3.cell? ⟨S, 34, none⟩ = some (.int .i64 b) := by rw [cell_of_row _ _ 34 _ _ _ hS3.out, ← hsv'.out]; simp [stepV, u8s, List.getElem?_append_right, hk'.out]
       have k35 : w3.cell? ⟨S, 35, none⟩ = some (.int .i64 h) := by rw [cell_of_row _ _ 35 _ _ _ hS3.out, ← hsv'.out]; simp [stepV, u8s, List.getElem?_append_right, hk'.out]
       have P0 : w3.cell? ⟨S + 1, 0, none⟩ = some (pv) := cell_of_row _ _ 0 _ _ _ hP3.out
       have P1 : w3.cell? ⟨S + 1, 1, none⟩ = some (qv) := cell_of_row _ _ 1 _ _ _ hP3.out
       rw [hw3]
       clear hw3 hone s0 s1 hP2 hS2 L2 hB2))
  obtain ⟨j, hj⟩ : ∃ j, 1 - i = j := ⟨_, rfl⟩
  have hij : (1 : Int) - (i : Int) = (j : Int) := by omega
  have hj2 : j < 2 := by omega
  have hj' := Lib.hid hj2
  obtain ⟨pv2, hpv2⟩ : ∃ pv2, PD.pp (D j) = pv2 := ⟨_, rfl⟩
  obtain ⟨qv2, hqv2⟩ : ∃ qv2, PD.qq (D j) = qv2 := ⟨_, rfl⟩
  have hpq2 := Lib.hid (And.intro hpv2 hqv2)
  have hap : Hid (Apart (D i) (D j)) := Lib.hid (by
    rcases two hi'.out with e | e
    · subst e
      rw [show j = 1 by omega]
      exact L3.out.ap
    · subst e
      rw [show j = 0 by omega]
      exact L3.out.ap.symm)
  obtain ⟨wr0, hwr0⟩ : ∃ wr0, World.drew w3 = wr0 := ⟨_, rfl⟩
  have hbr : Hid (Below w3.heap.size w3 wr0) := Lib.hid (by rw [← hwr0]; exact below_drewN (Below.refl _ _) 1)
  have Lr := Lib.hid (L3.out.below hbr.out)
  have Br := Lib.hid (hB3.out.trans (hbr.out.mono hB3.out.size))
  have hlt : Hid (S + 1 < wr0.heap.size ∧ S < wr0.heap.size) := Lib.hid (by
    have l2 := lt_of_block hP3.out
    have l3 := hbr.out.size
    omega)
  have hd : Hid (wr0.rangeAt (S + 1) 0 [pv, qv] ∧ wr0.rangeAt PL (j * 2) [pv2, qv2] ∧ wr0.cell? ⟨S, 0, none⟩ = some (.int .i64 4)) := Lib.hid (by
    have hr2 := Lr.out.range hj2
    rw [hpv2, hqv2] at hr2
    refine ⟨fun t v hv => ?_, hr2, by rw [← hwr0]; exact k0⟩
    rw [← hwr0]
    exact (cell_of_row w3 (S + 1) (0 + t) _ _ _ hP3.out).trans (by rw [Nat.zero_add]; simpa using hv))
  have hjw : IntKind.i64.wrap (j : Int) = (j : Int) := by rw [IntKind.wrap_i64]; omega
  clear hpv2 hqv2 hj
  refine wp_region_held (S := fun W => W.rangeAt (S + 1) 0 [pv, qv] ∧ W.rangeAt PL (j * 2) [pv2, qv2] ∧ W.cell? ⟨S, 0, none⟩ = some (.int .i64 4)) (by kernel_rfl) ?_
  change wpAnyH _ _ _ _ _ _ _ _ (World.drew _)
  rw [hwr0]
  clear hwr0
  refine tk (i := 0) (d := 69) (v := .agg #[pv, qv]) rfl rfl (yieldsIf_load_mid rfl 57 _ rfl (S + 1) 0 rfl [pv, qv] _ (fun W hW => hW.1) Try.underlying57 rfl hi2.out) hd.out ?_
  simp only [List.setIfInBounds_toArray, List.set_cons_zero, List.set_cons_succ]
  refine tk (i := 1) (d := 70) (v := .slice (some ⟨PL, 0, none⟩) 2 2) rfl rfl (Or.inl ⟨by rfl, by intro W hW; clear hW; go_simp⟩) hd.out ?_
  simp only [List.setIfInBounds_toArray, List.set_cons_zero, List.set_cons_succ]
  refine tk (i := 2) (d := 71) (v := .int .i64 (i : Int)) rfl rfl (Or.inl ⟨by rfl, by intro W hW; clear hW; go_simp⟩) hd.out ?_
  simp only [List.setIfInBounds_toArray, List.set_cons_zero, List.set_cons_succ]
  refine tk (i := 3) (d := 72) (v := .int .i64 (j : Int)) rfl rfl (Or.inl ⟨by rfl, by intro W hW; clear hW; go_simp⟩) hd.out ?_
  simp only [List.setIfInBounds_toArray, List.set_cons_zero, List.set_cons_succ]
  refine tk (i := 4) (d := 73) (v := .pointer (some ⟨PL, j * 2, none⟩)) rfl rfl (Or.inl ⟨by rfl, by intro W hW; clear hW; go_simp; intro hq; omega⟩) hd.out ?_
  simp only [List.setIfInBounds_toArray, List.set_cons_zero, List.set_cons_succ]
  refine tk (i := 5) (d := 74) (v := .agg #[pv2, qv2]) rfl rfl (yieldsIf_load_mid rfl 57 _ rfl PL (j * 2) rfl [pv2, qv2] _ (fun W hW => hW.2.1) Try.underlying57 rfl hi2.out) hd.out ?_
  simp only [List.setIfInBounds_toArray, List.set_cons_zero, List.set_cons_succ]
  refine tk (i := 6) (d := 75) (v := .pointer (some ⟨S, 0, none⟩)) rfl rfl (Or.inl ⟨by rfl, by intro W hW; clear hW; go_simp⟩) hd.out ?_
  simp only [List.setIfInBounds_toArray, List.set_cons_zero, List.set_cons_succ]
  refine tk (i := 7) (d := 76) (v := .int .i64 4) rfl rfl (Or.inl ⟨by rfl, by intro W hW; have q2 := hW.2.2; clear hW; go_simp⟩) hd.out ?_
  simp only [List.setIfInBounds_toArray, List.set_cons_zero, List.set_cons_succ]
  refine tk (i := 8) (d := 77) (v := .bool true) rfl rfl (Or.inl ⟨by rfl, by intro W hW; clear hW; go_simp⟩) hd.out ?_
  simp only [List.setIfInBounds_toArray, List.set_cons_zero, List.set_cons_succ]
  refine wpAnyH_ready (rs := [9]) (by kernel_rfl) (by simp) ?_
  refine AllReadyH.cons rfl (fun K hK => ?_) AllReadyH.nil
  go_simp
  have hw := with_meetL (Lr.out.pair hi'.out) (Lr.out.pair hj'.out) hap.out
  rw [hpv'.out, hqv'.out, hpq2.out.1, hpq2.out.2] at hw
  refine hw.mono ?_
  unfold StepP
  rintro e w5 ⟨rfl, d', hp', hq', hpd, hfr, hnr⟩
  have LL := Lib.hid (Lr.out.step hi'.out hpd (hp'.trans rfl) (hq'.trans rfl) hfr hnr)
  have BB := Lib.hid ((Br.out.mono hBs.out).trans (Lr.out.below_of hi'.out hfr))
  have hs5 : Hid (w5.rangeAt (S + 1) 0 [pv, qv] ∧ w5.rangeAt PL (j * 2) [pv2, qv2] ∧ w5.cell? ⟨S, 0, none⟩ = some (.int .i64 4)) := Lib.hid (by
    have nm : ∀ k, (k = S ∨ k = S + 1 ∨ k = PL) → ¬ Mut (D i) k := fun k hk q => by
      rcases hk with hk | hk | hk
      · have := (Mut.off (hL0.out.pair hi'.out) q).2; have := hSz.out; omega
      · have := (Mut.off (hL0.out.pair hi'.out) q).2; have := hSz.out; omega
      · exact Mut.typ (Lr.out.pair hi'.out) q (by rw [hk]; exact Lr.out.ty)
    exact ⟨fun t v hv => (World.cell?_of_block (a := ⟨S + 1, 0 + t, none⟩) (hfr.block (S + 1) hlt.out.1 (nm _ (.inr (.inl rfl))))).trans (hd.out.1 t v hv), fun t v hv => (World.cell?_of_block (a := ⟨PL, j * 2 + t, none⟩) (hfr.block PL Lr.out.lt_ (nm _ (.inr (.inr rfl))))).trans (hd.out.2.1 t v hv), (World.cell?_of_block (a := ⟨S, 0, none⟩) (hfr.block S hlt.out.2 (nm _ (.inl rfl)))).trans hd.out.2.2⟩)
  clear hw hpd hfr hnr hq' hp'
  refine hK.out _ _ hs5.out (fun _ => ?_)
  clear hK K
  refine tk (i := 10) (d := 4) (v := .bool true) rfl rfl (Or.inl ⟨by rfl, by intro W hW; clear hW; go_simp⟩) hs5.out ?_
  simp only [List.setIfInBounds_toArray, List.set_cons_zero, List.set_cons_succ]
  refine wpAnyH_done (by kernel_rfl) ?_ _
  go_wp2_with fail
  go_ret
  exact ⟨rfl, ⟨_, LL.out⟩, BB.out⟩
end Go.Proofs.Ytlghgfnkckaebaa
