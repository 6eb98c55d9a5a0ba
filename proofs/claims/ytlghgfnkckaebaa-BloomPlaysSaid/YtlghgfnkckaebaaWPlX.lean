/- BloomPlays' walk: the whole. -/
import Derived.Test.YtlghgfnkckaebaaWPlW
namespace Go.Proofs.Ytlghgfnkckaebaa
open Go.RowKit
set_option linter.unusedSimpArgs false
set_option linter.unusedVariables false

theorem run_bsliceW {P : Program} (w : World) (t e : TypeId) (len : Nat) (parts : Array (Nat × Value)) (cells : Array Value) (hu : P.underlying t = some (.slice e))
    (hf : P.builtSlice e len parts.toList = some cells) : (Instr.buildSlice t len parts).run P w = .ok (.slice (some ⟨w.heap.size, 0, none⟩) len len) (w.alloc (.cells cells e)) := by
  unfold Program.builtSlice at hf
  cases hie : P.info? e with
  | none => simp [hie] at hf
  | some ie =>
    simp only [hie] at hf
    cases hz : ie.zero with
    | none => simp [hz] at hf
    | some z =>
      simp only [hz] at hf
      by_cases hc : len * ie.size > 2 ^ 24 ∨ len * ie.size = 0
      · simp [hc] at hf
      · rw [if_neg hc] at hf
        exact run_buildSlice w t e len parts cells ie z hu hie hz (fun h' => hc (Or.inl h')) (fun h' => hc (Or.inr h')) hf
theorem bslPr (p q r s : Option Addr) (w : World) : (Instr.buildSlice 72 2 #[(0, .agg #[.pointer p, .pointer q]), (1, .agg #[.pointer r, .pointer s])]).run Try.prog w = .ok (.slice (some ⟨w.heap.size, 0, none⟩) 2 2) (w.alloc (.cells #[.pointer p, .pointer q, .pointer r, .pointer s] 57)) :=
  run_bsliceW w _ _ _ _ _ Try.underlying72 (by kernel_rfl)
def zkW : List Nat := List.replicate 32 0
def sv6 : Array Value := (stepV 6 0 zkW 0 0).toArray
def sv61 : Array Value := (stepV 6 1 zkW 0 0).toArray
theorem bst6 (w : World) : (Instr.build 75 #[(0, .int .i64 6)]).run Try.prog w = .ok (.agg sv6) w := run_build w _ _ _ (by kernel_rfl)
theorem bst61 (w : World) : (Instr.build 75 #[(0, .int .i64 6), (1, .int .i64 1)]).run Try.prog w = .ok (.agg sv61) w := run_build w _ _ _ (by kernel_rfl)
theorem zkW_length : zkW.length = 32 := by decide
theorem zkW_lt : ∀ x ∈ zkW, x < 256 := by decide
theorem PD.ptr (d : Option PD) : ∃ p q, PD.pp d = .pointer p ∧ PD.qq d = .pointer q := by cases d <;> exact ⟨_, _, rfl, rfl⟩
set_option maxRecDepth 20000 in
set_option maxHeartbeats 8000000 in
theorem plays_any (w : World) (b0 b1 h0 h1 : Int) (A : Option Addr) (n c : Nat) (st : Nat → StW) (hst : StRow w A n st) (hn : n ≤ 140737488355328) :
    Calls Try.prog 11 #[scrV b0 b1 h0 h1 A n c] w fun e w' => e = .returned (.bool true) ∧ Below w.heap.size w w' := by
  obtain ⟨S, hS⟩ : ∃ S, w.heap.size = S := ⟨_, rfl⟩
  obtain ⟨w1, hw1⟩ : ∃ w1, w.alloc (.cells #[.int .i64 b0, .int .i64 b1, .int .i64 h0, .int .i64 h1, .slice A n c] 68) = w1 := ⟨_, rfl⟩
  have hb1 : Hid (Below w.heap.size w w1) := Lib.hid (by rw [← hw1]; exact (Below.refl _ _).alloc (Nat.le_refl _) _)
  have hS1 : Hid (w1.heap[S]? = some (.cells #[.int .i64 b0, .int .i64 b1, .int .i64 h0, .int .i64 h1, .slice A n c] 68 (0, 0))) := Lib.hid (by rw [← hw1, ← hS]; exact heap_alloc_new w _)
  have hi5 : Hid ((Try.prog.info? 68).map (·.size) = some 5) := Lib.hid (by kernel_rfl)
  have hi2 : Hid ((Try.prog.info? 57).map (·.size) = some 2) := Lib.hid (by kernel_rfl)
  have hi36 : Hid ((Try.prog.info? 75).map (·.size) = some 36) := Lib.hid (by kernel_rfl)
  have hsm := Lib.hid (small_any w1 b0 b1 h0 h1 A n c st (hst.below hb1.out) hn)
  have hst' := Lib.hid hst
  have hSz := Lib.hid hS
  have hbs := bslPr
  have hb6 := bst6
  have hb61 := bst61
  unfold scrV at hsm ⊢
  clear hst
  go_enter Try.func11, Try.ntmps11
  go_upto_if 11 with (first
    | (refine wpList_load_row rfl 68 _ rfl S rfl 68 _ (0, 0) _ hS1.out Try.underlying68 rfl hi5.out ?_)
    | (go_at_call 33; refine hsm.out.mono ?_; unfold SmP; rintro e w2 ⟨⟨r, rfl⟩, hb2⟩; have hB2 := Lib.hid hb2; clear hb2 hsm))
  have hS2 := Lib.hid ((hB2.out.block S (lt_of_block hS1.out)).trans hS1.out)
  have k0 : w2.cell? ⟨S, 0, none⟩ = some (.int .i64 b0) := cell_of_row _ _ 0 _ _ _ hS2.out
  have k1 : w2.cell? ⟨S, 1, none⟩ = some (.int .i64 b1) := cell_of_row _ _ 1 _ _ _ hS2.out
  have k2 : w2.cell? ⟨S, 2, none⟩ = some (.int .i64 h0) := cell_of_row _ _ 2 _ _ _ hS2.out
  have k3 : w2.cell? ⟨S, 3, none⟩ = some (.int .i64 h1) := cell_of_row _ _ 3 _ _ _ hS2.out
  have hBB := Lib.hid (hb1.out.trans (hB2.out.mono hb1.out.size))
  cases r with
  | false =>
    go_wp2_with fail
    go_ret
    exact ⟨rfl, hBB.out⟩
  | true =>
    go_upto_region 8 with (first
      | (go_at_call 34
         have q := hpd3.out
         refine (made_any b1 h1 _).mono ?_
         unfold MadeP
         rintro e w6 ⟨⟨d1, rfl, hp6⟩, b6⟩
         obtain ⟨p1, q1, hpq1⟩ := PD.ptr d1
         have hpq1' := Lib.hid hpq1
         rw [hpq1.1, hpq1.2]
         obtain ⟨M2, hM2⟩ : ∃ M2, w6.heap.size = M2 := ⟨_, rfl⟩
         obtain ⟨w7, hw7⟩ : ∃ w7, w6.alloc (.cells #[.pointer none, .pointer none] 57) = w7 := ⟨_, rfl⟩
         have hb7 : Hid (Below w6.heap.size w6 w7) := Lib.hid (by rw [← hw7]; exact (Below.refl _ _).alloc (Nat.le_refl _) _)
         have hM7 : Hid (w7.heap[M2]? = some (.cells #[.pointer none, .pointer none] 57 (0, 0))) := Lib.hid (by rw [← hw7, ← hM2]; exact heap_alloc_new w6 _)
         have hpd6 := Lib.hid hp6
         have hb6 := Lib.hid b6
         have hMz2 := Lib.hid hM2
         clear q hp6 b6 hpq1)
      | (go_at_call 34
         refine (made_any b0 h0 w2).mono ?_
         unfold MadeP
         rintro e w3 ⟨⟨d0, rfl, hp3⟩, b3⟩
         obtain ⟨p0, q0, hpq0⟩ := PD.ptr d0
         have hpq0' := Lib.hid hpq0
         rw [hpq0.1, hpq0.2]
         obtain ⟨M1, hM1⟩ : ∃ M1, w3.heap.size = M1 := ⟨_, rfl⟩
         obtain ⟨w4, hw4⟩ : ∃ w4, w3.alloc (.cells #[.pointer none, .pointer none] 57) = w4 := ⟨_, rfl⟩
         have hb4 : Hid (Below w3.heap.size w3 w4) := Lib.hid (by rw [← hw4]; exact (Below.refl _ _).alloc (Nat.le_refl _) _)
         have hM4 : Hid (w4.heap[M1]? = some (.cells #[.pointer none, .pointer none] 57 (0, 0))) := Lib.hid (by rw [← hw4, ← hM1]; exact heap_alloc_new w3 _)
         have hpd3 := Lib.hid hp3
         have hb3 := Lib.hid b3
         have hMz1 := Lib.hid hM1
         clear hp3 b3 hpq0)
      | (refine wpList_store_row rfl 57 _ _ rfl M1 #[.pointer p0, .pointer q0] rfl rfl 57 _ hM4.out hi2.out rfl (by simp [Value.oneCell']) ?_
         obtain ⟨w5, hw5⟩ : ∃ w5, w4.setRow M1 #[.pointer p0, .pointer q0] = w5 := ⟨_, rfl⟩
         have hM5 : Hid (w5.heap[M1]? = some (.cells #[.pointer p0, .pointer q0] 57 (0, 0))) := Lib.hid (by rw [← hw5]; exact setRow_heap w4 M1 _ _ _ _ hM4.out)
         have hB5 : Hid (Below w3.heap.size w3 w5) := Lib.hid (by rw [← hw5]; exact setRow_belowW hb4.out (by have := hMz1.out; omega) _)
         have hB25 := Lib.hid (hb3.out.trans (hB5.out.mono hb3.out.size))
         have m1 : w5.cell? ⟨S, 1, none⟩ = some (.int .i64 b1) := (hB25.out.cell (p := ⟨S, 1, none⟩) (lt_of_block hS2.out)).trans k1
         have m3 : w5.cell? ⟨S, 3, none⟩ = some (.int .i64 h1) := (hB25.out.cell (p := ⟨S, 3, none⟩) (lt_of_block hS2.out)).trans k3
         rw [hw5]
         clear hw5 hw4 hM4 hb4)
      | (refine wpList_store_row rfl 57 _ _ rfl M2 #[.pointer p1, .pointer q1] rfl rfl 57 _ hM7.out hi2.out rfl (by simp [Value.oneCell']) ?_
         obtain ⟨w8, hw8⟩ : ∃ w8, w7.setRow M2 #[.pointer p1, .pointer q1] = w8 := ⟨_, rfl⟩
         have hM8 : Hid (w8.heap[M2]? = some (.cells #[.pointer p1, .pointer q1] 57 (0, 0))) := Lib.hid (by rw [← hw8]; exact setRow_heap w7 M2 _ _ _ _ hM7.out)
         have hB8 : Hid (Below w6.heap.size w6 w8) := Lib.hid (by rw [← hw8]; exact setRow_belowW hb7.out (by have := hMz2.out; omega) _)
         have hB58 := Lib.hid (hb6.out.trans (hB8.out.mono hb6.out.size))
         have hM18 := Lib.hid ((hB58.out.block M1 (lt_of_block hM5.out)).trans hM5.out)
         rw [hw8]
         clear hw8 hw7 hM7 hb7)
      | (refine wpList_load_row rfl 57 _ rfl M1 rfl 57 _ (0, 0) _ hM18.out Try.underlying57 rfl hi2.out ?_)
      | (refine wpList_load_row rfl 57 _ rfl M2 rfl 57 _ (0, 0) _ hM8.out Try.underlying57 rfl hi2.out ?_))
    obtain ⟨PL, hPL⟩ : ∃ PL, w8.heap.size = PL := ⟨_, rfl⟩
    obtain ⟨w9, hw9⟩ : ∃ w9, w8.alloc (.cells #[.pointer p0, .pointer q0, .pointer p1, .pointer q1] 57) = w9 := ⟨_, rfl⟩
    have hb9 : Hid (Below w8.heap.size w8 w9) := Lib.hid (by rw [← hw9]; exact (Below.refl _ _).alloc (Nat.le_refl _) _)
    have hB28 := Lib.hid (hB25.out.trans (hB58.out.mono hB25.out.size))
    have hB08 := Lib.hid (hBB.out.trans (hB28.out.mono hBB.out.size))
    obtain ⟨Z, hZ⟩ : ∃ Z, w2.heap.size = Z := ⟨_, rfl⟩
    have hL9 : Hid (LAt w9 Z PL (fun j => if j = 0 then d0 else d1)) := Lib.hid (by
      have z5 : Z ≤ w5.heap.size := by rw [← hZ]; exact hB25.out.size
      have g0 : PairAt w3 Z d0 := by rw [← hZ]; exact hpd3.out
      have g1 : PairAt w6 Z d1 := by
        have := hpd6.out
        cases d1 with
        | none => trivial
        | some x => exact ⟨this.1.base z5, RF.base this.2 z5⟩
      have hap : Apart d0 d1 := by
        cases d0 with
        | none => cases d1 <;> trivial
        | some x =>
          cases d1 with
          | none => trivial
          | some y =>
            have l1 := PairAt.lt (d := x) hpd3.out
            have l2 := PairAt.lt (d := y) hpd6.out
            have := hB5.out.size
            exact ⟨by omega, by omega, by omega⟩
      refine ⟨?_, by simpa using ((g0.below (hB5.out.trans (hB58.out.mono hB5.out.size))).below hb9.out), by simpa using ((g1.below hB8.out).below hb9.out), by simpa using hap, by rw [← hPL, ← hZ]; exact hB28.out.size⟩
      rw [← hw9, ← hPL, heap_alloc_new w8 _]
      simp [LCells, hpq0'.out.1, hpq0'.out.2, hpq1'.out.1, hpq1'.out.2])
    have hB9 : Hid (Below Z w2 w9) := Lib.hid (by rw [← hZ]; exact hB28.out.trans (hb9.out.mono hB28.out.size))
    have hSZ : Hid (S < Z ∧ w.heap.size ≤ Z) := Lib.hid (by rw [← hZ]; exact ⟨lt_of_block hS2.out, hBB.out.size⟩)
    have hfin : Hid (∀ W, Below Z w2 W → Below w.heap.size w W) := Lib.hid fun W h => hBB.out.trans (h.mono hSZ.out.2)
    have hZ' := Lib.hid hZ
    rw [hw9, hPL]
    go_wp2_with fail
    clear m1 m3 k0 k1 k2 k3 hw9 hb9 hZ
    go_loopw [8] (fun iv wr => ∃ i : Nat, i ≤ n ∧ iv = .int .i64 (i : Int) ∧ Hid (∃ D, LAt wr Z PL D) ∧ Hid (Below Z w2 wr)) (fun iv _ => n - (intOf iv).toNat)
    case atStart => exact ⟨0, by omega, rfl, Lib.hid ⟨_, hL9.out⟩, hB9⟩
    case round =>
      clear hL9 hB9
      obtain ⟨i, hi, rfl, hLr, hBr⟩ := hrel
      obtain ⟨D, hL⟩ := hLr.out
      have hLh := Lib.hid hL
      clear hL hLr
      have c4 : wr.cell? ⟨S, 4, none⟩ = some (.slice A n c) := (hBr.out.cell (p := ⟨S, 4, none⟩) hSZ.out.1).trans (cell_of_row _ _ 4 _ _ _ hS2.out)
      by_cases hlt : i < n
      · obtain ⟨bb, off, rfl, hbb, hrr⟩ := (hst'.out.below (hfin.out _ hBr.out)).row (by omega)
        obtain ⟨sv, hsv⟩ : ∃ sv, (st i).V = sv := ⟨_, rfl⟩
        have hr := Lib.hid (hrr i hlt)
        rw [hsv] at hr
        have hl36 : Hid (sv.length = 36) := Lib.hid (by rw [← hsv]; exact stepV_length (hst'.out.len i hlt))
        have hdn := done_any hLh.out (st i).k (st i).F (st i).kb (hst'.out.len i hlt) (hst'.out.lt i hlt) (st i).b (st i).h
        rw [show stepV (st i).k (st i).F (st i).kb (st i).b (st i).h = sv from hsv] at hdn
        have hdn' := Lib.hid hdn
        clear hrr hbb hdn hsv
        go_wp2_with (first
          | (refine wpList_load_mid_g rfl 75 _ rfl bb (off + i * 36) rfl sv _ hr.out Try.underlying75 rfl (by rw [hl36.out]; exact hi36.out) ?_)
          | (go_at_call 35
             refine hdn'.out.mono ?_
             unfold DoneP
             rintro e w5 ⟨rfl, hL5, hb5⟩
             have hL5' := Lib.hid hL5
             have hb5' := Lib.hid (hBr.out.trans hb5)
             clear hL5 hb5))
        go_roundw
        case rel => exact ⟨i + 1, by omega, by go_num, hL5', hb5'⟩
        case measure => simp [intOf]; omega
      · have hr0 : Hid (wr.rangeAt PL 0 [PD.pp (D 0), PD.qq (D 0)]) := Lib.hid (hLh.out.range (i := 0) (by decide))
        have ht0 := Lib.hid (told_any hLh.out.p0)
        obtain ⟨a0, a1, ea⟩ := PD.ptr (D 0)
        obtain ⟨a2, a3, eb⟩ := PD.ptr (D 1)
        have eb' := Lib.hid eb
        rw [ea.1, ea.2] at hr0 ht0
        clear ea eb
        go_wp2_with (first
          | (refine wpList_load_mid_g rfl 57 _ rfl PL 0 rfl [.pointer a0, .pointer a1] _ hr0.out Try.underlying57 rfl hi2.out ?_; clear hr0)
          | (go_at_call 25
             refine ht0.out.mono ?_
             rintro e w5 ⟨rfl, b5⟩
             have L5 := Lib.hid (hLh.out.below b5)
             have hb5 := Lib.hid (hBr.out.trans (b5.mono (Nat.le_trans hLh.out.off (Nat.le_of_lt hLh.out.lt_))))
             have hr2 : Hid (w5.rangeAt PL 2 [PD.pp (D 1), PD.qq (D 1)]) := Lib.hid (L5.out.range (i := 1) (by decide))
             have ht2 := Lib.hid (told_any L5.out.p1)
             rw [eb'.out.1, eb'.out.2] at hr2 ht2
             clear ht0 b5)
          | (refine wpList_load_mid_g rfl 57 _ rfl PL 2 rfl [.pointer a2, .pointer a3] _ hr2.out Try.underlying57 rfl hi2.out ?_; clear hr2)
          | (go_at_call 25
             refine ht2.out.mono ?_
             rintro e w6 ⟨rfl, b6⟩
             have L6 := Lib.hid (L5.out.below b6)
             have hb6z := Lib.hid (hb5.out.trans (b6.mono (Nat.le_trans L5.out.off (Nat.le_of_lt L5.out.lt_))))
             have hd6 : Hid (Calls Try.prog 35 #[.slice (some ⟨PL, 0, none⟩) 2 2, .agg sv6] w6 (DoneP w6 Z PL)) := Lib.hid (done_any L6.out 6 0 zkW zkW_length zkW_lt 0 0)
             clear ht2 b6)
          | (go_at_call 35
             refine hd6.out.mono ?_
             unfold DoneP
             rintro e w7 ⟨rfl, ⟨D7, L7⟩, b7⟩
             have hb7 := Lib.hid (hb6z.out.trans b7)
             have hd7 : Hid (Calls Try.prog 35 #[.slice (some ⟨PL, 0, none⟩) 2 2, .agg sv61] w7 (DoneP w7 Z PL)) := Lib.hid (done_any L7 6 1 zkW zkW_length zkW_lt 0 0)
             clear hd6 L7 b7)
          | (go_at_call 35
             refine hd7.out.mono ?_
             unfold DoneP
             rintro e w8z ⟨rfl, _, b8⟩
             have hb8 := Lib.hid (hb7.out.trans b8)
             clear hd7 b8))
        go_ret
        exact ⟨rfl, hfin.out _ hb8.out⟩
end Go.Proofs.Ytlghgfnkckaebaa
