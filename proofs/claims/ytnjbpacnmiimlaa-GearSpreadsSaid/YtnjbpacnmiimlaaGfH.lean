/- GearSpreads: the program's Spread. -/
import Derived.Test.YtnjbpacnmiimlaaGfG
import Derived.BigRegion
namespace Go.Proofs.Ytnjbpacnmiimlaa
open Go.RowKit

/-- The least and the greatest behind i rounds of the program's loop. -/
def loF (g : Nat → Int) (i : Nat) : Int := if i = 0 then g 0 else lsF g i
def hiF (g : Nat → Int) (i : Nat) : Int := if i = 0 then g 0 else gsF g i
theorem loF_succ (g : Nat → Int) (i : Nat) : loF g (i + 1) = if g i < loF g i then g i else loF g i := by
  unfold loF
  rw [if_neg (by omega)]
  show (if i = 0 ∨ g i < lsF g i then g i else lsF g i) = _
  by_cases h : i = 0
  · subst h; simp
  · simp [h]
theorem hiF_succ (g : Nat → Int) (i : Nat) : hiF g (i + 1) = if g i > hiF g i then g i else hiF g i := by
  unfold hiF
  rw [if_neg (by omega)]
  show (if i = 0 ∨ gsF g i < g i then g i else gsF g i) = _
  by_cases h : i = 0
  · subst h; simp
  · simp [h]
set_option maxRecDepth 20000 in
set_option maxHeartbeats 2000000 in
theorem spread_any (g : Nat → Int) (A : Option Addr) (N c : Nat) (w : World) (hg : ∀ i, (g i).natAbs ≤ 2 ^ 63) (hN : N < 2 ^ 45) (hA : Is w w.heap.size A N g) :
    Calls Try.prog 11 #[.slice A N c] w fun e w' => e = .returned (spV g N) ∧ Below w.heap.size w w' := by
  have hA' := Lib.hid hA
  have hg' := Lib.hid hg
  clear hA hg
  go_enter Try.func11, Try.ntmps11
  have hI0 := Lib.hid (Fl.inv_all hg'.out hN 0 (Nat.zero_le _))
  have hb0 : Hid (Below w.heap.size w ((w.alloc (.cells (spR 0 0 0 0 0) 33)).alloc (.cells (spR 0 0 0 0 0) 33))) := Lib.hid (((Below.refl _ _).alloc (Nat.le_refl _) _).alloc (by simp) _)
  have h0 := heap_alloc2_old w (.cells (spR 0 0 0 0 0) 33) (.cells (spR 0 0 0 0 0) 33)
  have h1 := heap_alloc2_new w (.cells (spR 0 0 0 0 0) 33) (.cells (spR 0 0 0 0 0) 33)
  unfold spR at hb0 h0 h1
  have hsf : ∀ (W : World) (a : Addr) (x : Nat) (m : Mode), (store a (.float .f64 x) m).run Try.prog W = stored Try.prog W a (.float .f64 x) m := fun W a x m => run_store Try.prog W a _ m rfl
  by_cases n0 : N = 0
  · subst n0
    have h0' := Lib.hid h0
    go_wp2_with fail
    refine bodyPost_ret (results_cell_row rfl _ _ w.heap.size _ (spR 0 0 0 0 0) _ _ rfl h0'.out Try.underlying33 rfl (by kernel_rfl)) rfl ?_
    exact ⟨rfl, hb0.out⟩
  · have hN1 : ((N : Int) == 0) = false := by simp; omega
    have hN0 : 0 < N := by omega
    obtain ⟨ab, ao, rfl, hab, qa⟩ := Rd.get (Rd.below hA'.out hb0.out) hN0
    rw [Nat.add_zero] at qa
    have n0' := Lib.hid n0
    clear n0
    go_wp2_with fail
    generalize ((w.alloc (.cells #[.int .i64 0, .int .i64 0, .int .i64 0, .float .f64 0, .float .f64 0] 33)).alloc (.cells #[.int .i64 0, .int .i64 0, .int .i64 0, .float .f64 0, .float .f64 0] 33)) = w1 at hb0 h0 h1 qa ⊢
    have hs0 := h0
    have hs1 := h1
    have x0 := cell_of_row w1 _ 0 _ _ _ h1
    have x1 := cell_of_row w1 _ 1 _ _ _ h1
    have x2 := cell_of_row w1 _ 2 _ _ _ h1
    have xf := fun j => frozen_of_row w1 _ j _ _ h1
    simp only [List.getElem?_toArray, List.getElem?_cons_zero, List.getElem?_cons_succ] at x0 x1 x2
    have hs0' := Lib.hid hs0
    have hs1' := Lib.hid hs1
    have hne : ab ≠ w.heap.size + 1 := by omega
    clear hs0 hs1 h0 h1
    go_region
    have hrow : Hid ((((w1.setCell ⟨w.heap.size + 1, 0, none⟩ (.int .i64 (N : Int))).setCell ⟨w.heap.size + 1, 1, none⟩ (.int .i64 (g 0))).setCell ⟨w.heap.size + 1, 2, none⟩ (.int .i64 (g 0))).drew.heap[w.heap.size + 1]? = some (.cells (spR N (loF g 0) (hiF g 0) 0 0) 33 (0, 0))) :=
      Lib.hid (heap_setCell_same _ (w.heap.size + 1) 2 _ _ _ (heap_setCell_same _ (w.heap.size + 1) 1 _ _ _ (heap_setCell_same w1 (w.heap.size + 1) 0 _ _ _ hs1'.out)))
    have hrow0 : Hid ((((w1.setCell ⟨w.heap.size + 1, 0, none⟩ (.int .i64 (N : Int))).setCell ⟨w.heap.size + 1, 1, none⟩ (.int .i64 (g 0))).setCell ⟨w.heap.size + 1, 2, none⟩ (.int .i64 (g 0))).drew.heap[w.heap.size]? = some (.cells (spR 0 0 0 0 0) 33 (0, 0))) :=
      Lib.hid ((heap_setCell_other _ _ _ _ (by simp)).trans ((heap_setCell_other _ _ _ _ (by simp)).trans ((heap_setCell_other _ _ _ _ (by simp)).trans hs0'.out)))
    have hb2 : Hid (Below w.heap.size w (((w1.setCell ⟨w.heap.size + 1, 0, none⟩ (.int .i64 (N : Int))).setCell ⟨w.heap.size + 1, 1, none⟩ (.int .i64 (g 0))).setCell ⟨w.heap.size + 1, 2, none⟩ (.int .i64 (g 0))).drew) :=
      Lib.hid (below_drewN (((hb0.out.setCell (by simp) _).setCell (by simp) _).setCell (by simp) _) 1)
    generalize (((w1.setCell ⟨w.heap.size + 1, 0, none⟩ (.int .i64 (N : Int))).setCell ⟨w.heap.size + 1, 1, none⟩ (.int .i64 (g 0))).setCell ⟨w.heap.size + 1, 2, none⟩ (.int .i64 (g 0))).drew = w2 at hrow hrow0 hb2 ⊢
    clear qa xf x0 x1 x2 hs0' hs1' hne hab hb0 hI0
    go_wp2_with fail
    go_loopw [4, 5, 27] (fun mv tv iv wr => ∃ i : Nat, i ≤ N ∧ iv = .int .i64 i ∧ mv = .float .f64 (Fl.spF g i).1 ∧ tv = .float .f64 (Fl.spF g i).2 ∧ Hid (wr.heap[w.heap.size + 1]? = some (.cells (spR N (loF g i) (hiF g i) 0 0) 33 (0, 0))) ∧ Hid (wr.heap[w.heap.size]? = some (.cells (spR 0 0 0 0 0) 33 (0, 0))) ∧ Hid (Below w.heap.size w wr)) (fun _ _ iv _ => N - (intOf iv).toNat)
    case atStart => exact ⟨0, by omega, rfl, rfl, rfl, hrow, hrow0, hb2⟩
    case round =>
      clear hrow hrow0 hb2
      obtain ⟨i, hi, rfl, rfl, rfl, hr, hr0, hb⟩ := hrel
      by_cases hlt : i < N
      · have hst := (Fl.inv_step (Fl.inv_all hg'.out hN i hi) (hg'.out i) (by omega)).1
        obtain ⟨ma, ta, hma⟩ : ∃ ma ta, Hid (∀ _ : Unit, Fl.spF g i = (ma, ta)) := ⟨_, _, Lib.hid fun _ => rfl⟩
        rw [hma.out ()] at hst ⊢
        simp only at hst ⊢
        obtain ⟨s1, s2, s3, s4, s5, s6⟩ := hst
        rw [show ((i + 1 : Nat) : Int) = (i : Int) + 1 by omega] at s2
        have r1 := fun W => run_float_arith (P := Try.prog) W .sub 31 .f64 _ _ _ s1
        have r2 := fun W => run_float_arith (P := Try.prog) W .quo 31 .f64 _ _ _ s2
        have r3 := fun W => run_float_arith (P := Try.prog) W .add 31 .f64 _ _ _ s3
        have r4 := fun W => run_float_arith (P := Try.prog) W .sub 31 .f64 _ _ _ s4
        have r5 := fun W => run_float_arith (P := Try.prog) W .mul 31 .f64 _ _ _ s5
        have r6 := fun W => run_float_arith (P := Try.prog) W .add 31 .f64 _ _ _ s6
        obtain ⟨ab', ao', hA2, hab, qa⟩ := Rd.get (Rd.below hA'.out hb.out) hlt
        obtain ⟨rfl, rfl⟩ : ab = ab' ∧ ao = ao' := by simpa using hA2
        clear s1 s2 s3 s4 s5 s6 hA2
        have hr' := hr.out
        unfold spR at hr'
        have xl := cell_of_row wr _ 1 _ _ _ hr'
        have xg := cell_of_row wr _ 2 _ _ _ hr'
        have xf := fun j => frozen_of_row wr _ j _ _ hr'
        simp only [List.getElem?_toArray, List.getElem?_cons_zero, List.getElem?_cons_succ] at xl xg
        have hls := Lib.hid (loF_succ g i)
        have hgs := Lib.hid (hiF_succ g i)
        have hmn : ∀ (W : World) (ts : Array TypeId) (t : TypeId), (Builtin.min_ ts t #[.int .i64 (loF g i), .int .i64 (g i)]).run Try.prog W = .ok (.int .i64 (loF g (i + 1))) W := fun W ts t => by rw [hls.out]; exact run_min_int2 _ _ _ _ _ _ _
        have hmx : ∀ (W : World) (ts : Array TypeId) (t : TypeId), (Builtin.max_ ts t #[.int .i64 (hiF g i), .int .i64 (g i)]).run Try.prog W = .ok (.int .i64 (hiF g (i + 1))) W := fun W ts t => by rw [hgs.out]; exact run_max_int2 _ _ _ _ _ _ _
        clear hr'
        go_wp2_with fail
        go_roundw
        case rel =>
          refine ⟨i + 1, by omega, by go_num, by rw [Fl.spF, hma.out ()], by rw [Fl.spF, hma.out ()], Lib.hid ?_, Lib.hid ?_, Lib.hid ?_⟩
          · exact (row2 (row1 hr.out _) _)
          · exact ((heap_setCell_other _ _ _ _ (by simp)).trans ((heap_setCell_other _ _ _ _ (by simp)).trans hr0.out))
          · exact ((hb.out.setCell (by simp) _).setCell (by simp) _)
        case measure => simp [intOf]; omega
      · obtain rfl : i = N := by omega
        have hr' := hr.out
        have hr0' := hr0.out
        unfold spR at hr' hr0'
        have x0 := cell_of_row wr _ 0 _ _ _ hr'
        have x1 := cell_of_row wr _ 1 _ _ _ hr'
        have x2 := cell_of_row wr _ 2 _ _ _ hr'
        have x3 := cell_of_row wr _ 3 _ _ _ hr'
        have x4 := cell_of_row wr _ 4 _ _ _ hr'
        have y0 := cell_of_row wr _ 0 _ _ _ hr0'
        have y1 := cell_of_row wr _ 1 _ _ _ hr0'
        have y2 := cell_of_row wr _ 2 _ _ _ hr0'
        have y3 := cell_of_row wr _ 3 _ _ _ hr0'
        have y4 := cell_of_row wr _ 4 _ _ _ hr0'
        have xf := fun j => frozen_of_row wr _ j _ _ hr'
        have yf := fun j => frozen_of_row wr _ j _ _ hr0'
        simp only [List.getElem?_toArray, List.getElem?_cons_zero, List.getElem?_cons_succ] at x0 x1 x2 x3 x4 y0 y1 y2 y3 y4
        clear hr' hr0'
        have hinv := Lib.hid (Fl.inv_all hg'.out hN i (Nat.le_refl _))
        have n0 := n0'.out
        obtain ⟨l1, l2, l3, l4⟩ := Fl.last_spec hinv.out (by omega) hN
        have r1 := fun W => run_float_arith (P := Try.prog) W .quo 31 .f64 _ _ _ l1
        have hs := Lib.hid fun W => sqrt_run W l2
        have hlo : Hid (loF g i = lsF g i) := Lib.hid (if_neg n0)
        have hhi : Hid (hiF g i = gsF g i) := Lib.hid (if_neg n0)
        clear l1 l2 l3 l4 n0
        go_wp2_with (go_at_call 14; refine (hs.out _).mono ?_; rintro e w' ⟨rfl, rfl⟩)
        refine bodyPost_ret (results_cell_row rfl _ _ w.heap.size _ (spR i (loF g i) (hiF g i) (Fl.spF g i).1 (Fl.rF (Fl.spF g i).2 i)) _ _ rfl (row5 ((heap_setCell_other _ _ _ _ (by simp)).trans ((heap_setCell_other _ _ _ _ (by simp)).trans hr0.out)) _ _ _ _ _) Try.underlying33 rfl (by kernel_rfl)) rfl ?_
        refine ⟨?_, ?_⟩
        · unfold spV
          rw [if_neg n0'.out, hlo.out, hhi.out]
        · exact (((((((hb.out.setCell (by simp) _).setCell (by simp) _).setCell (by simp) _).setCell (by simp) _).setCell (by simp) _).setCell (by simp) _).setCell (by simp) _)
end Go.Proofs.Ytnjbpacnmiimlaa
