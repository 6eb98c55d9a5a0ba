/- GearSpreads: the document's Spread. -/
import Derived.Test.YtnjbpacnmiimlaaGfF
import Derived.Test.YtnjbpacnmiimlaaOwn2
import Derived.Test.YtnjbpacnmiimlaaBase
import Derived.Test.YtnjbpacnmiimlaaProg
import Derived.BigQuiet
import Derived.Handy
namespace Go.Proofs.Ytnjbpacnmiimlaa
open Go.RowKit

/-- n numbers from address A on. -/
abbrev Is (w : World) (B : Nat) (A : Option Addr) (n : Nat) (g : Nat → Int) : Prop := Rd w B A n (fun j => .int .i64 (g j))
def lsF (g : Nat → Int) : Nat → Int
  | 0 => 0
  | i + 1 => if i = 0 ∨ g i < lsF g i then g i else lsF g i
def gsF (g : Nat → Int) : Nat → Int
  | 0 => 0
  | i + 1 => if i = 0 ∨ gsF g i < g i then g i else gsF g i
def spR (a b c : Int) (m r : Nat) : Array Value := #[.int .i64 a, .int .i64 b, .int .i64 c, .float .f64 m, .float .f64 r]
/-- What Spread tells. -/
def spV (g : Nat → Int) (N : Nat) : Value := .agg (if N = 0 then spR 0 0 0 0 0 else spR N (lsF g N) (gsF g N) (Fl.spF g N).1 (Fl.rF (Fl.spF g N).2 N))
theorem sqrt_ext (w : World) {x r : Nat} (h : Ieee.double.sqrt x = some r) : (callFunc 15 #[.float .f64 x]).run Try.prog w = .ok (.value (.float .f64 r)) w := by
  have e : (callFunc 15 #[.float .f64 x]).run Try.prog w = ((Go.Extern.MathSqrt.sqrt #[.float .f64 x]) >>= fun v => pure (Next.value v)).run Try.prog w := by kernel_rfl
  have e2 : Go.Extern.MathSqrt.sqrt #[.float .f64 x] = (match Ieee.double.sqrt x with | some r => pure (.float .f64 r) | none => do pure (.float .f64 (← choose (.nanBits .f64 x x)))) := rfl
  rw [e, e2, h]
  rfl
theorem sqrt_run (w : World) {x r : Nat} (h : Ieee.double.sqrt x = some r) : Calls Try.prog 14 #[.float .f64 x] w fun e w' => e = .returned (.float .f64 r) ∧ w = w' := by
  have hf := fun W => sqrt_ext W h
  go_enter Try.func14, Try.ntmps14
  go_wp2_with fail
  go_ret
  exact ⟨rfl, rfl⟩
theorem row1 {W : World} {b : Nat} {a l q : Int} {m r : Nat} {t : TypeId} (h : W.heap[b]? = some (.cells (spR a l q m r) t (0, 0))) (v : Int) : (W.setCell ⟨b, 1, none⟩ (.int .i64 v)).heap[b]? = some (.cells (spR a v q m r) t (0, 0)) := heap_setCell_same W b 1 _ _ _ h
theorem row2 {W : World} {b : Nat} {a l q : Int} {m r : Nat} {t : TypeId} (h : W.heap[b]? = some (.cells (spR a l q m r) t (0, 0))) (v : Int) : (W.setCell ⟨b, 2, none⟩ (.int .i64 v)).heap[b]? = some (.cells (spR a l v m r) t (0, 0)) := heap_setCell_same W b 2 _ _ _ h
theorem row5 {W : World} {b : Nat} {a l q : Int} {m r : Nat} {t : TypeId} (h : W.heap[b]? = some (.cells (spR a l q m r) t (0, 0))) (a' l' q' : Int) (m' r' : Nat) : (((((W.setCell ⟨b, 0, none⟩ (.int .i64 a')).setCell ⟨b, 1, none⟩ (.int .i64 l')).setCell ⟨b, 2, none⟩ (.int .i64 q')).setCell ⟨b, 3, none⟩ (.float .f64 m')).setCell ⟨b, 4, none⟩ (.float .f64 r')).heap[b]? = some (.cells (spR a' l' q' m' r') t (0, 0)) :=
  heap_setCell_same _ b 4 _ _ _ (heap_setCell_same _ b 3 _ _ _ (heap_setCell_same _ b 2 _ _ _ (heap_setCell_same _ b 1 _ _ _ (heap_setCell_same W b 0 _ _ _ h))))
set_option maxRecDepth 20000 in
set_option maxHeartbeats 2000000 in
theorem refSpread_any (g : Nat → Int) (A : Option Addr) (N c : Nat) (w : World) (hg : ∀ i, (g i).natAbs ≤ 2 ^ 63) (hN : N < 2 ^ 45) (hA : Is w w.heap.size A N g) :
    Calls Try.prog 10 #[.slice A N c] w fun e w' => e = .returned (spV g N) ∧ Below w.heap.size w w' := by
  have hA' := Lib.hid hA
  have hg' := Lib.hid hg
  clear hA hg
  go_enter Try.func10, Try.ntmps10
  have hI0 := Lib.hid (Fl.inv_all hg'.out hN 0 (Nat.zero_le _))
  have hb0 : Hid (Below w.heap.size w ((w.alloc (.cells (spR 0 0 0 0 0) 33)).alloc (.cells (spR 0 0 0 0 0) 33))) := Lib.hid (((Below.refl _ _).alloc (Nat.le_refl _) _).alloc (by simp) _)
  have h0 := heap_alloc2_old w (.cells (spR 0 0 0 0 0) 33) (.cells (spR 0 0 0 0 0) 33)
  have h1 := heap_alloc2_new w (.cells (spR 0 0 0 0 0) 33) (.cells (spR 0 0 0 0 0) 33)
  unfold spR at hb0 h0 h1
  go_wp2_with fail
  generalize ((w.alloc (.cells #[.int .i64 0, .int .i64 0, .int .i64 0, .float .f64 0, .float .f64 0] 33)).alloc (.cells #[.int .i64 0, .int .i64 0, .int .i64 0, .float .f64 0, .float .f64 0] 33)) = w1 at hb0 h0 h1 ⊢
  have h0' := Lib.hid h0
  have h1' := Lib.hid h1
  clear h0 h1
  go_loopw [4, 5, 6] (fun mv tv iv wr => ∃ i : Nat, i ≤ N ∧ iv = .int .i64 i ∧ mv = .float .f64 (Fl.spF g i).1 ∧ tv = .float .f64 (Fl.spF g i).2 ∧ Hid (wr.heap[w.heap.size + 1]? = some (.cells (spR 0 (lsF g i) (gsF g i) 0 0) 33 (0, 0))) ∧ Hid (wr.heap[w.heap.size]? = some (.cells (spR 0 0 0 0 0) 33 (0, 0))) ∧ Hid (Below w.heap.size w wr)) (fun _ _ iv _ => N - (intOf iv).toNat)
  case atStart => exact ⟨0, by omega, rfl, rfl, rfl, h1', h0', hb0⟩
  case round =>
    obtain ⟨i, hi, rfl, rfl, rfl, hr, hr0, hb⟩ := hrel
    by_cases hlt : i < N
    · have hst := (Fl.inv_step (Fl.inv_all hg'.out hN i hi) (hg'.out i) (by omega)).1
      have hst' := Lib.hid hst
      obtain ⟨ma, ta, hma⟩ : ∃ ma ta, Hid (∀ _ : Unit, Fl.spF g i = (ma, ta)) := ⟨_, _, Lib.hid fun _ => rfl⟩
      rw [hma.out ()] at hst ⊢
      simp only at hst ⊢
      obtain ⟨s1, s2, s3, s4, s5, s6⟩ := hst
      rw [show ((i + 1 : Nat) : Int) = (i : Int) + 1 by omega] at s2
      have r1 := fun W => run_float_arith (P := Try.prog) W .sub 31 .f64 _ _ _ s1
      have r2 := fun W => run_float_arith (P := Try.prog) W .quo 31 .f64 _ _ _ s2
      have r3 := fun W => run_float_arith (P := Try.prog) W .add 31 .f64 _ _ _ s3
      have r4 := fun W => run_float_arith (P := Try.prog) W .sub 31 .f64 _ _ _ s4
      have r5 := fun W => run_float_arith (P := Try.prog) W .mul 31 .f64 _ _ _ s5
      have r6 := fun W => run_float_arith (P := Try.prog) W .add 31 .f64 _ _ _ s6
      obtain ⟨ab, ao, rfl, hab, qa⟩ := Rd.get (Rd.below hA'.out hb.out) hlt
      clear s1 s2 s3 s4 s5 s6
      go_wp2_with fail
      have hr' := hr.out
      unfold spR at hr'
      have xl := cell_of_row wr _ 1 _ _ _ hr'
      have xg := cell_of_row wr _ 2 _ _ _ hr'
      have xf := fun j => frozen_of_row wr _ j _ _ hr'
      simp only [List.getElem?_toArray, List.getElem?_cons_zero, List.getElem?_cons_succ] at xl xg
      have qa' : ∀ n, (wr.drewN n).cell? ⟨ab, ao + i, none⟩ = some (.int .i64 (g i)) := fun n => qa
      have xf' : ∀ n j, (wr.drewN n).frozen? ⟨w.heap.size + 1, j, none⟩ = false := fun n j => xf j
      have xl' : ∀ n, (wr.drewN n).cell? ⟨w.heap.size + 1, 1, none⟩ = some (.int .i64 (lsF g i)) := fun n => xl
      have xg' : ∀ n, (wr.drewN n).cell? ⟨w.heap.size + 1, 2, none⟩ = some (.int .i64 (gsF g i)) := fun n => xg
      clear hr' r1 r2 r3 r4 r5 r6
      by_cases i0 : i = 0
      · have i0' : ((i : Int) == 0) = true := by subst i0; rfl
        have i0h := Lib.hid i0
        clear i0
        go_quiet (fail)
        go_wp2_with fail
        go_quiet (fail)
        go_wp2_with fail
        have hls : Hid (lsF g (i + 1) = g i) := Lib.hid (if_pos (.inl i0h.out))
        have hgs : Hid (gsF g (i + 1) = g i) := Lib.hid (if_pos (.inl i0h.out))
        go_roundw
        case rel =>
          refine ⟨i + 1, by omega, by go_num, by rw [Fl.spF, hma.out ()], by rw [Fl.spF, hma.out ()], Lib.hid ?_, Lib.hid ?_, Lib.hid ?_⟩
          · rw [hls.out, hgs.out]
            exact row2 (row1 hr.out _) _
          · exact (heap_setCell_other _ _ _ _ (by simp)).trans ((heap_setCell_other _ _ _ _ (by simp)).trans hr0.out)
          · exact ((below_drewN (((below_drewN hb.out _)).setCell (by simp) _) _)).setCell (by simp) _
        case measure => simp [intOf]; omega
      · have i0' : ((i : Int) == 0) = false := by simp; omega
        by_cases hl : g i < lsF g i
        · by_cases hq : gsF g i < g i
          · go_quiet (fail)
            go_wp2_with fail
            go_quiet (fail)
            go_wp2_with fail
            have hls : Hid (lsF g (i + 1) = g i) := Lib.hid (if_pos (.inr hl))
            have hgs : Hid (gsF g (i + 1) = g i) := Lib.hid (if_pos (.inr hq))
            go_roundw
            case rel =>
              refine ⟨i + 1, by omega, by go_num, by rw [Fl.spF, hma.out ()], by rw [Fl.spF, hma.out ()], Lib.hid ?_, Lib.hid ?_, Lib.hid ?_⟩
              · rw [hls.out, hgs.out]
                exact (row2 (row1 hr.out _) _)
              · exact ((heap_setCell_other _ _ _ _ (by simp)).trans ((heap_setCell_other _ _ _ _ (by simp)).trans hr0.out))
              · exact ((below_drewN ((below_drewN hb.out _).setCell (by simp) _) _).setCell (by simp) _)
            case measure => simp [intOf]; omega
          · go_quiet (fail)
            go_wp2_with fail
            go_quiet (fail)
            go_wp2_with fail
            have hls : Hid (lsF g (i + 1) = g i) := Lib.hid (if_pos (.inr hl))
            have hgs : Hid (gsF g (i + 1) = gsF g i) := Lib.hid (if_neg (by omega))
            go_roundw
            case rel =>
              refine ⟨i + 1, by omega, by go_num, by rw [Fl.spF, hma.out ()], by rw [Fl.spF, hma.out ()], Lib.hid ?_, Lib.hid ?_, Lib.hid ?_⟩
              · rw [hls.out, hgs.out]
                exact (row1 hr.out _)
              · exact ((heap_setCell_other _ _ _ _ (by simp)).trans hr0.out)
              · exact (below_drewN ((below_drewN hb.out _).setCell (by simp) _) _)
            case measure => simp [intOf]; omega
        · by_cases hq : gsF g i < g i
          · go_quiet (fail)
            go_wp2_with fail
            go_quiet (fail)
            go_wp2_with fail
            have hls : Hid (lsF g (i + 1) = lsF g i) := Lib.hid (if_neg (by omega))
            have hgs : Hid (gsF g (i + 1) = g i) := Lib.hid (if_pos (.inr hq))
            go_roundw
            case rel =>
              refine ⟨i + 1, by omega, by go_num, by rw [Fl.spF, hma.out ()], by rw [Fl.spF, hma.out ()], Lib.hid ?_, Lib.hid ?_, Lib.hid ?_⟩
              · rw [hls.out, hgs.out]
                exact (row2 hr.out _)
              · exact ((heap_setCell_other _ _ _ _ (by simp)).trans hr0.out)
              · exact ((below_drewN hb.out _).setCell (by simp) _)
            case measure => simp [intOf]; omega
          · go_quiet (fail)
            go_wp2_with fail
            go_quiet (fail)
            go_wp2_with fail
            have hls : Hid (lsF g (i + 1) = lsF g i) := Lib.hid (if_neg (by omega))
            have hgs : Hid (gsF g (i + 1) = gsF g i) := Lib.hid (if_neg (by omega))
            go_roundw
            case rel =>
              refine ⟨i + 1, by omega, by go_num, by rw [Fl.spF, hma.out ()], by rw [Fl.spF, hma.out ()], Lib.hid ?_, Lib.hid ?_, Lib.hid ?_⟩
              · rw [hls.out, hgs.out]
                exact hr.out
              · exact hr0.out
              · exact (below_drewN hb.out _)
            case measure => simp [intOf]; omega
    · obtain rfl : i = N := by omega
      have hr' := hr.out
      have hr0' := hr0.out
      unfold spR at hr' hr0'
      have x0 := cell_of_row wr _ 0 _ _ _ hr'
      have x1 := cell_of_row wr _ 1 _ _ _ hr'
      have x2 := cell_of_row wr _ 2 _ _ _ hr'
      have x3 := cell_of_row wr _ 3 _ _ _ hr'
      have x4 := cell_of_row wr _ 4 _ _ _ hr'
      have y0 := cell_of_row wr _ 0 _ _ _ hr0'
      have y1 := cell_of_row wr _ 1 _ _ _ hr0'
      have y2 := cell_of_row wr _ 2 _ _ _ hr0'
      have y3 := cell_of_row wr _ 3 _ _ _ hr0'
      have y4 := cell_of_row wr _ 4 _ _ _ hr0'
      have xf := fun j => frozen_of_row wr _ j _ _ hr'
      have yf := fun j => frozen_of_row wr _ j _ _ hr0'
      simp only [List.getElem?_toArray, List.getElem?_cons_zero, List.getElem?_cons_succ] at x0 x1 x2 x3 x4 y0 y1 y2 y3 y4
      clear hr' hr0'
      have hinv := Lib.hid (Fl.inv_all hg'.out hN i (Nat.le_refl _))
      have hsf : ∀ (W : World) (a : Addr) (x : Nat) (m : Mode), (store a (.float .f64 x) m).run Try.prog W = stored Try.prog W a (.float .f64 x) m := fun W a x m => run_store Try.prog W a _ m rfl
      by_cases n0 : i = 0
      · subst n0
        go_wp2_with fail
        refine bodyPost_ret (results_cell_row rfl _ _ w.heap.size _ (spR 0 0 0 0 0) _ _ rfl (row5 ((heap_setCell_other _ _ _ _ (by simp)).trans hr0.out) _ _ _ _ _) Try.underlying33 rfl (by kernel_rfl)) rfl ?_
        refine ⟨?_, ?_⟩
        · rfl
        · exact (((((hb.out.setCell (by simp) _).setCell (by simp) _).setCell (by simp) _).setCell (by simp) _).setCell (by simp) _).setCell (by simp) _
      · obtain ⟨l1, l2, l3, l4⟩ := Fl.last_spec hinv.out (by omega) hN
        have r1 := fun W => run_float_arith (P := Try.prog) W .quo 31 .f64 _ _ _ l1
        have hs := Lib.hid fun W => sqrt_run W l2
        have hp : (0 : Int) < (i : Int) := by omega
        have z3 : ∀ v : Value, (wr.setCell ⟨w.heap.size + 1, 0, none⟩ v).cell? ⟨w.heap.size + 1, 3, none⟩ = some (.float .f64 0) := fun v => cell_of_row _ _ 3 _ _ _ (heap_setCell_same wr _ 0 _ _ v hr.out)
        have z3f : ∀ (v : Value) j, (wr.setCell ⟨w.heap.size + 1, 0, none⟩ v).frozen? ⟨w.heap.size + 1, j, none⟩ = false := fun v j => frozen_of_row _ _ j _ _ (heap_setCell_same wr _ 0 _ _ v hr.out)
        clear l1 l2 l3 l4
        go_wp2_with (go_at_call 14; refine (hs.out _).mono ?_; rintro e w' ⟨rfl, rfl⟩)
        refine bodyPost_ret (results_cell_row rfl _ _ w.heap.size _ (spR i (lsF g i) (gsF g i) (Fl.spF g i).1 (Fl.rF (Fl.spF g i).2 i)) _ _ rfl (row5 ((heap_setCell_other _ _ _ _ (by simp)).trans ((heap_setCell_other _ _ _ _ (by simp)).trans ((heap_setCell_other _ _ _ _ (by simp)).trans hr0.out))) _ _ _ _ _) Try.underlying33 rfl (by kernel_rfl)) rfl ?_
        refine ⟨?_, ?_⟩
        · unfold spV
          rw [if_neg n0]
        · exact (((((((hb.out.setCell (by simp) _).setCell (by simp) _).setCell (by simp) _).setCell (by simp) _).setCell (by simp) _).setCell (by simp) _).setCell (by simp) _).setCell (by simp) _
end Go.Proofs.Ytnjbpacnmiimlaa
