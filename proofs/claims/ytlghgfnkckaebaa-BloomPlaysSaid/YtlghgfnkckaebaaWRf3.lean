/- The document's Ones, Fill, Alarm, With. (Printed by tools/genrwith.py.) -/
import Derived.Test.YtlghgfnkckaebaaWRf2
namespace Go.Proofs.Ytlghgfnkckaebaa
open Go.RowKit
set_option linter.unusedSimpArgs false
set_option linter.unusedVariables false

theorem cntB_le : ∀ l : List Bool, cntB l ≤ l.length
  | [] => Nat.le_refl _
  | x :: l => by
    have h1 := cntB_le l
    have h2 : x.toNat ≤ 1 := by cases x <;> decide
    show x.toNat + cntB l ≤ l.length + 1
    omega
set_option maxRecDepth 20000 in
set_option maxHeartbeats 1000000 in
theorem rones_any {w : World} {B g a0 c h : Nat} {l : List Nat} (f : RF w B g a0 c l h) : Calls Try.prog 56 #[.pointer (some ⟨g, 0, none⟩)] w fun e w' => e = .returned (.int .i64 ((popL l : Nat) : Int)) ∧ w = w' := by
  have n1 := f.n1
  have nm := f.nm
  have c0 := f.c0
  have ff := Lib.hid f
  obtain ⟨N, hN⟩ : ∃ N, 64 * l.length = N := ⟨_, rfl⟩
  have hN' := Lib.hid hN
  rw [hN] at c0
  have hN2 : N ≤ 1048576 := by omega
  obtain ⟨T, hT⟩ : ∃ T, Hid (popL l = T) := ⟨_, Lib.hid rfl⟩
  rw [hT.out]
  clear f n1 nm hN
  go_enter Try.func56, Try.ntmps56
  go_wp2_with fail
  go_loopw [3, 4] (fun nv iv wr => ∃ (k s : Nat), k ≤ N ∧ s ≤ k ∧ nv = .int .i64 (s : Int) ∧ iv = .int .i64 (k : Int) ∧ Hid (cntB ((bitsOf l).take k) = s) ∧ wr = w) (fun _ iv _ => N - (intOf iv).toNat)
  case atStart => exact ⟨0, 0, by omega, by omega, rfl, rfl, Lib.hid rfl, rfl⟩
  case round =>
    obtain ⟨k, s, hk, hsk, rfl, rfl, hs, rfl⟩ := hrel
    by_cases hlt : k < N
    · have cb := ff.out.bit k (by rw [hN'.out]; exact hlt)
      obtain ⟨v, hv⟩ : ∃ v, bitAt l k = v := ⟨_, rfl⟩
      rw [hv] at cb
      have hs1 : Hid (cntB ((bitsOf l).take (k + 1)) = s + v.toNat) := Lib.hid (by rw [cntB_take _ k (bitAt l k) (bitsOf_at l k (by rw [hN'.out]; exact hlt)), hs.out, hv])
      clear hv hs
      cases v with
      | true =>
        go_wp2_with fail
        go_roundw
        case rel => exact ⟨k + 1, s + 1, by omega, by omega, by go_num, by go_num, hs1, trivial⟩
        case measure => simp [intOf]; omega
      | false =>
        go_wp2_with fail
        go_roundw
        case rel => exact ⟨k + 1, s, by omega, by omega, rfl, by go_num, hs1, trivial⟩
        case measure => simp [intOf]; omega
    · have hsT : Hid (s = T) := Lib.hid (by
        rw [← hs.out, List.take_of_length_le (by rw [bitsOf_length, hN'.out]; omega), cnt_bits, hT.out])
      clear hs
      go_wp2_with fail
      go_ret
      exact ⟨ret_int (by first | rw [hsT.out] | rw [hsT]), rfl⟩
set_option maxRecDepth 20000 in
set_option maxHeartbeats 1000000 in
theorem rfill_any {w : World} {B g a0 c h : Nat} {l : List Nat} (f : RF w B g a0 c l h) : Calls Try.prog 57 #[.pointer (some ⟨g, 0, none⟩)] w fun e w' => e = .returned (.float .f64 (fillF (popL l) (64 * l.length))) ∧ ∃ m, w' = w.drewN m := by
  have hon := Lib.hid (fun m => rones_any (f.below (below_drewN (Below.refl w.heap.size w) m)))
  have c0 := f.c0
  have nm := f.nm
  have n1 := f.n1
  have hp := popL_le l
  clear f
  obtain ⟨o, ho⟩ : ∃ o, popL l = o := ⟨_, rfl⟩
  obtain ⟨N, hN⟩ : ∃ N, 64 * l.length = N := ⟨_, rfl⟩
  rw [ho] at hon hp ⊢
  rw [hN] at c0 hp ⊢
  have hN1 : 1 ≤ N := by omega
  have hN2 : N ≤ 1048576 := by omega
  have hr := fun W => run_fill W hp hN1 hN2
  clear ho hN
  go_enter Try.func57, Try.ntmps57
  go_wp2_with fail
  go_quiet ((go_at_call 56; exact quiet_e (hon.out _)))
  go_wp2_with fail
  go_ret
  exact ⟨rfl, _, rfl⟩
set_option maxRecDepth 20000 in
set_option maxHeartbeats 1000000 in
theorem ralarm_any {w : World} {B g a0 c h : Nat} {l : List Nat} (f : RF w B g a0 c l h) : Calls Try.prog 58 #[.pointer (some ⟨g, 0, none⟩)] w fun e w' => e = .returned (.float .f64 (alarmF (popL l) (64 * l.length) h)) ∧ ∃ m, w' = w.drewN m := by
  have hfi := Lib.hid (fun m => rfill_any (f.below (below_drewN (Below.refl w.heap.size w) m)))
  have c1 := f.c1
  have hq := Lib.hid (fun W => refPow_any (fillF (popL l) (64 * l.length)) (h : Int) W (fillF_eq (popL_le l) (by have := f.n1; omega) (by have := f.nm; omega)).2.1 (by omega) (by have := RFlt.h16 f; omega))
  clear f
  unfold alarmF
  generalize fillF (popL l) (64 * l.length) = x at hfi hq ⊢
  go_enter Try.func58, Try.ntmps58
  go_wp2_with fail
  go_quiet (first
    | (go_at_call 57; exact quiet_dA (hfi.out _))
    | (go_at_call 37; exact quiet_e (hq.out _)))
  go_wp2_with fail
  go_ret
  exact ⟨rfl, _, rfl⟩
theorem zipB_next (op : Bool → Bool → Bool) (l m : List Bool) (k : Nat) (x y : Bool) (h1 : l[k]? = some x) (h2 : m[k]? = some y) : List.zipWith op (l.take (k + 1)) (m.take (k + 1)) = List.zipWith op (l.take k) (m.take k) ++ [op x y] := by
  have e1 : (l.take k).length = (m.take k).length := by
    have := (List.getElem?_eq_some_iff.1 h1).1
    have := (List.getElem?_eq_some_iff.1 h2).1
    simp
    omega
  rw [List.take_add_one, List.take_add_one, h1, h2, List.zipWith_append e1]
  rfl
theorem bls_append (l m : List Bool) : bls (l ++ m) = bls l ++ bls m := by simp [bls]
def RWithP (w : World) (B g h : Nat) (l : List Nat) (e : Ending) (w' : World) : Prop :=
  e = .returned (.int .i64 0) ∧ (∃ a' c', RF w' B g a' c' l h ∧ w.heap.size ≤ a') ∧ Fr (fun k => k = g) w w'
/-- Another list of bits stands in a filter. -/
theorem RF.swap {w w' : World} {B g a0 c h N n' c' : Nat} {l l' : List Nat} {A : Option Addr} (f : RF w B g a0 c l h) (hb : Below w.heap.size w w') (hl : 64 * l'.length = 64 * l.length) (o : Own w' w.heap.size 4 1 A n' c' (bls (bitsOf l'))) (hn' : n' = 64 * l.length) :
    ∃ a', A = some ⟨a', 0, none⟩ ∧ w.heap.size ≤ a' ∧ RF (w'.setCell ⟨g, 0, none⟩ (.slice A n' c')) B g a' c' l' h := by
  subst hn'
  obtain ⟨a', rfl⟩ := o.head (by have := f.n1; omega)
  have hlt := RFlt.lt_ f
  have ho := (o.lt a' rfl).1
  have f' := f.below hb
  refine ⟨a', rfl, ho, ?_, f.gB, ?_, f.h1, f.h16, by rw [bitsOf_length, hl, ← bitsOf_length]; exact RFlt.n1 f, by rw [bitsOf_length, hl, ← bitsOf_length]; exact RFlt.nm f, by rw [bitsOf_length, hl, ← bitsOf_length]; exact f.md⟩
  · rw [heap_setCell_same w' g 0 _ _ _ (RFlt.blk f'), bitsOf_length, bitsOf_length, hl]
    rfl
  · rw [bitsOf_length, hl]
    exact (o.setFar (p := ⟨g, 0, none⟩) hlt _).base (Nat.le_trans f.gB (Nat.le_of_lt hlt))
set_option maxRecDepth 20000 in
set_option maxHeartbeats 2000000 in
theorem rjoin_any {w : World} {B g a0 c h B2 g2 a2 c2 : Nat} {l m : List Nat} (f : RF w B g a0 c l h) (f2 : RF w B2 g2 a2 c2 m h) (hlm : l.length = m.length) :
    Calls Try.prog 76 #[.pointer (some ⟨g, 0, none⟩), .pointer (some ⟨g2, 0, none⟩), .bool false] w (RWithP w B g h (joinQ l m)) := by
  have n1 := f.n1
  have nm := f.nm
  have c0 := f.c0
  have c1 := f.c1
  have d0 := f2.c0
  have d1 := f2.c1
  have ff := Lib.hid f
  have ff2 := Lib.hid f2
  have hlm' := Lib.hid hlm
  rw [← hlm] at d0
  obtain ⟨N, hN⟩ : ∃ N, 64 * l.length = N := ⟨_, rfl⟩
  have hN' := Lib.hid hN
  rw [hN] at c0 d0
  have hN2 : N ≤ 1048576 := by omega
  have hgl := Lib.hid (RFlt.lt_ f)
  have hql := Lib.hid (joinQ_length l m hlm)
  have hbq := Lib.hid (bitsOf_join l m hlm)
  have hfz := Lib.hid (RFlt.fz f 0)
  clear f f2 hlm n1 nm hN
  unfold RWithP
  go_enter Try.func76, Try.ntmps76
  go_wp2_with fail
  go_quiet (fail)
  go_wp2_with fail
  clear c0 c1 d0 d1
  go_loopw [7, 8] (fun ov iv wr => ∃ (i : Nat) (A' : Option Addr) (c' : Nat), i ≤ N ∧ ov = .slice A' i c' ∧ iv = .int .i64 (i : Int) ∧ Hid (Own wr w.heap.size 4 1 A' i c' (bls (List.zipWith (fun x y => x || y) ((bitsOf l).take i) ((bitsOf m).take i)))) ∧ Hid (Below w.heap.size w wr)) (fun _ iv _ => N - (intOf iv).toNat)
  case atStart => exact ⟨0, none, 0, by omega, rfl, rfl, Lib.hid (Own.nil _ _ _ _), Lib.hid (below_drewN (Below.refl _ _) _)⟩
  case round =>
    obtain ⟨i, A', c', hi, rfl, rfl, ho, hbel⟩ := hrel
    have fr := Lib.hid (ff.out.below hbel.out)
    have fr2 := Lib.hid (ff2.out.below hbel.out)
    have c0 := fr.out.c0
    rw [hN'.out] at c0
    by_cases hlt : i < N
    · have d0 := fr2.out.c0
      rw [← hlm'.out, hN'.out] at d0
      have cb := fr.out.bit i (by rw [hN'.out]; exact hlt)
      have db := fr2.out.bit i (by rw [← hlm'.out, hN'.out]; exact hlt)
      obtain ⟨v, hv⟩ : ∃ v, bitAt l i = v := ⟨_, rfl⟩
      obtain ⟨u, hu⟩ : ∃ u, bitAt m i = u := ⟨_, rfl⟩
      rw [hv] at cb
      rw [hu] at db
      have hnx : Hid (List.zipWith (fun x y => x || y) ((bitsOf l).take (i + 1)) ((bitsOf m).take (i + 1)) = List.zipWith (fun x y => x || y) ((bitsOf l).take i) ((bitsOf m).take i) ++ [v || u]) := Lib.hid (zipB_next _ _ _ i v u (by rw [bitsOf_at l i (by rw [hN'.out]; exact hlt), hv]) (by rw [bitsOf_at m i (by rw [← hlm'.out, hN'.out]; exact hlt), hu]))
      have hsz : Hid (w.heap.size ≤ wr.heap.size) := Lib.hid hbel.out.size
      clear hv hu fr fr2
      cases v with
      | true =>
        go_wp2_with (first | (at_builtin; refine wpList_app1 elL _ #[_] rfl rfl _ _ rfl rfl ho.out rfl (by intro z hz; simp at hz; subst hz; rfl) (by unfold maxLen; omega) (by omega) hsz.out (i + 1) (by omega) (bls (List.zipWith (fun x y => x || y) ((bitsOf l).take (i + 1)) ((bitsOf m).take (i + 1)))) (by rw [hnx.out, bls_append]; rfl) ?_; intro A7 c7 w7 o7 at7 b7; have o7' := Lib.hid o7; have b7' := Lib.hid (hbel.out.trans b7); clear o7 at7 b7))
        go_roundw
        case rel => exact ⟨i + 1, A7, c7, by omega, rfl, by go_num, o7', b7'⟩
        case measure => simp [intOf]; omega
      | false =>
        go_wp2_with (first | (at_builtin; refine wpList_app1 elL _ #[_] rfl rfl _ _ rfl rfl ho.out rfl (by intro z hz; simp at hz; subst hz; rfl) (by unfold maxLen; omega) (by omega) hsz.out (i + 1) (by omega) (bls (List.zipWith (fun x y => x || y) ((bitsOf l).take (i + 1)) ((bitsOf m).take (i + 1)))) (by rw [hnx.out, bls_append]; rfl) ?_; intro A7 c7 w7 o7 at7 b7; have o7' := Lib.hid o7; have b7' := Lib.hid (hbel.out.trans b7); clear o7 at7 b7))
        go_roundw
        case rel => exact ⟨i + 1, A7, c7, by omega, rfl, by go_num, o7', b7'⟩
        case measure => simp [intOf]; omega
    · have hiN : Hid (i = N) := Lib.hid (by omega)
      have hoo : Hid (Own wr w.heap.size 4 1 A' i c' (bls (bitsOf (joinQ l m)))) := Lib.hid (by
        have := ho.out
        rw [List.take_of_length_le (by rw [bitsOf_length, hN'.out, hiN.out]; exact Nat.le_refl _), List.take_of_length_le (by rw [bitsOf_length, ← hlm'.out, hN'.out, hiN.out]; exact Nat.le_refl _), ← hbq.out] at this
        exact this)
      have hsw := Lib.hid (ff.out.swap (N := 0) hbel.out (by rw [hql.out]) hoo.out (by rw [hN'.out, hiN.out]))
      have fz := RFlt.fz fr.out 0
      have hrr : Hid (Fr (fun k => k = g) w (wr.setCell ⟨g, 0, none⟩ (.slice A' i c'))) := Lib.hid ((Fr.of_below _ hbel.out).trans (Fr.setCell _ ⟨g, 0, none⟩ _) (fun _ _ q => q))
      clear fr fr2 ho hoo hiN
      go_wp2_with fail
      go_ret
      obtain ⟨a', _, h1, h2⟩ := hsw.out
      exact ⟨rfl, ⟨a', c', h2, h1⟩, hrr.out⟩
set_option maxRecDepth 20000 in
set_option maxHeartbeats 2000000 in
theorem rmeet_any {w : World} {B g a0 c h B2 g2 a2 c2 : Nat} {l m : List Nat} (f : RF w B g a0 c l h) (f2 : RF w B2 g2 a2 c2 m h) (hlm : l.length = m.length) :
    Calls Try.prog 76 #[.pointer (some ⟨g, 0, none⟩), .pointer (some ⟨g2, 0, none⟩), .bool true] w (RWithP w B g h (meetQ l m)) := by
  have n1 := f.n1
  have nm := f.nm
  have c0 := f.c0
  have c1 := f.c1
  have d0 := f2.c0
  have d1 := f2.c1
  have ff := Lib.hid f
  have ff2 := Lib.hid f2
  have hlm' := Lib.hid hlm
  rw [← hlm] at d0
  obtain ⟨N, hN⟩ : ∃ N, 64 * l.length = N := ⟨_, rfl⟩
  have hN' := Lib.hid hN
  rw [hN] at c0 d0
  have hN2 : N ≤ 1048576 := by omega
  have hgl := Lib.hid (RFlt.lt_ f)
  have hql := Lib.hid (meetQ_length l m hlm)
  have hbq := Lib.hid (bitsOf_meet l m hlm)
  have hfz := Lib.hid (RFlt.fz f 0)
  clear f f2 hlm n1 nm hN
  unfold RWithP
  go_enter Try.func76, Try.ntmps76
  go_wp2_with fail
  go_quiet (fail)
  go_wp2_with fail
  clear c0 c1 d0 d1
  go_loopw [7, 8] (fun ov iv wr => ∃ (i : Nat) (A' : Option Addr) (c' : Nat), i ≤ N ∧ ov = .slice A' i c' ∧ iv = .int .i64 (i : Int) ∧ Hid (Own wr w.heap.size 4 1 A' i c' (bls (List.zipWith (fun x y => x && y) ((bitsOf l).take i) ((bitsOf m).take i)))) ∧ Hid (Below w.heap.size w wr)) (fun _ iv _ => N - (intOf iv).toNat)
  case atStart => exact ⟨0, none, 0, by omega, rfl, rfl, Lib.hid (Own.nil _ _ _ _), Lib.hid (below_drewN (Below.refl _ _) _)⟩
  case round =>
    obtain ⟨i, A', c', hi, rfl, rfl, ho, hbel⟩ := hrel
    have fr := Lib.hid (ff.out.below hbel.out)
    have fr2 := Lib.hid (ff2.out.below hbel.out)
    have c0 := fr.out.c0
    rw [hN'.out] at c0
    by_cases hlt : i < N
    · have d0 := fr2.out.c0
      rw [← hlm'.out, hN'.out] at d0
      have cb := fr.out.bit i (by rw [hN'.out]; exact hlt)
      have db := fr2.out.bit i (by rw [← hlm'.out, hN'.out]; exact hlt)
      obtain ⟨v, hv⟩ : ∃ v, bitAt l i = v := ⟨_, rfl⟩
      obtain ⟨u, hu⟩ : ∃ u, bitAt m i = u := ⟨_, rfl⟩
      rw [hv] at cb
      rw [hu] at db
      have hnx : Hid (List.zipWith (fun x y => x && y) ((bitsOf l).take (i + 1)) ((bitsOf m).take (i + 1)) = List.zipWith (fun x y => x && y) ((bitsOf l).take i) ((bitsOf m).take i) ++ [v && u]) := Lib.hid (zipB_next _ _ _ i v u (by rw [bitsOf_at l i (by rw [hN'.out]; exact hlt), hv]) (by rw [bitsOf_at m i (by rw [← hlm'.out, hN'.out]; exact hlt), hu]))
      have hsz : Hid (w.heap.size ≤ wr.heap.size) := Lib.hid hbel.out.size
      clear hv hu fr fr2
      cases v with
      | true =>
        go_wp2_with (first | (at_builtin; refine wpList_app1 elL _ #[_] rfl rfl _ _ rfl rfl ho.out rfl (by intro z hz; simp at hz; subst hz; rfl) (by unfold maxLen; omega) (by omega) hsz.out (i + 1) (by omega) (bls (List.zipWith (fun x y => x && y) ((bitsOf l).take (i + 1)) ((bitsOf m).take (i + 1)))) (by rw [hnx.out, bls_append]; rfl) ?_; intro A7 c7 w7 o7 at7 b7; have o7' := Lib.hid o7; have b7' := Lib.hid (hbel.out.trans b7); clear o7 at7 b7))
        go_roundw
        case rel => exact ⟨i + 1, A7, c7, by omega, rfl, by go_num, o7', b7'⟩
        case measure => simp [intOf]; omega
      | false =>
        go_wp2_with (first | (at_builtin; refine wpList_app1 elL _ #[_] rfl rfl _ _ rfl rfl ho.out rfl (by intro z hz; simp at hz; subst hz; rfl) (by unfold maxLen; omega) (by omega) hsz.out (i + 1) (by omega) (bls (List.zipWith (fun x y => x && y) ((bitsOf l).take (i + 1)) ((bitsOf m).take (i + 1)))) (by rw [hnx.out, bls_append]; rfl) ?_; intro A7 c7 w7 o7 at7 b7; have o7' := Lib.hid o7; have b7' := Lib.hid (hbel.out.trans b7); clear o7 at7 b7))
        go_roundw
        case rel => exact ⟨i + 1, A7, c7, by omega, rfl, by go_num, o7', b7'⟩
        case measure => simp [intOf]; omega
    · have hiN : Hid (i = N) := Lib.hid (by omega)
      have hoo : Hid (Own wr w.heap.size 4 1 A' i c' (bls (bitsOf (meetQ l m)))) := Lib.hid (by
        have := ho.out
        rw [List.take_of_length_le (by rw [bitsOf_length, hN'.out, hiN.out]; exact Nat.le_refl _), List.take_of_length_le (by rw [bitsOf_length, ← hlm'.out, hN'.out, hiN.out]; exact Nat.le_refl _), ← hbq.out] at this
        exact this)
      have hsw := Lib.hid (ff.out.swap (N := 0) hbel.out (by rw [hql.out]) hoo.out (by rw [hN'.out, hiN.out]))
      have fz := RFlt.fz fr.out 0
      have hrr : Hid (Fr (fun k => k = g) w (wr.setCell ⟨g, 0, none⟩ (.slice A' i c'))) := Lib.hid ((Fr.of_below _ hbel.out).trans (Fr.setCell _ ⟨g, 0, none⟩ _) (fun _ _ q => q))
      clear fr fr2 ho hoo hiN
      go_wp2_with fail
      go_ret
      obtain ⟨a', _, h1, h2⟩ := hsw.out
      exact ⟨rfl, ⟨a', c', h2, h1⟩, hrr.out⟩
set_option maxRecDepth 20000 in
set_option maxHeartbeats 2000000 in
theorem rwith_un {w : World} {B g a0 c h B2 g2 a2 c2 h2 : Nat} {l m : List Nat} (f : RF w B g a0 c l h) (f2 : RF w B2 g2 a2 c2 m h2) (hun : ¬ (l.length = m.length ∧ h = h2)) (V : Bool) :
    Calls Try.prog 76 #[.pointer (some ⟨g, 0, none⟩), .pointer (some ⟨g2, 0, none⟩), .bool V] w fun e w' => e = .returned (.int .i64 70) ∧ ∃ m, w' = w.drewN m := by
  have c0 := f.c0
  have c1 := f.c1
  have d0 := f2.c0
  have d1 := f2.c1
  clear f f2
  by_cases hl : l.length = m.length
  · have hh : ((h : Int) != (h2 : Int)) = true := by
      have : h ≠ h2 := fun e => hun ⟨hl, e⟩
      simp; omega
    rw [← hl] at d0
    clear hun hl
    generalize 64 * l.length = n at c0 d0
    go_enter Try.func76, Try.ntmps76
    go_wp2_with fail
    go_quiet (fail)
    go_wp2_with fail
    go_ret
    exact ⟨rfl, _, rfl⟩
  · have hh : (((64 * l.length : Nat) : Int) != ((64 * m.length : Nat) : Int)) = true := by simp; omega
    clear hun hl
    generalize 64 * l.length = n at c0 hh
    generalize 64 * m.length = n2 at d0 hh
    go_enter Try.func76, Try.ntmps76
    go_wp2_with fail
    go_quiet (fail)
    go_wp2_with fail
    go_ret
    exact ⟨rfl, _, rfl⟩
end Go.Proofs.Ytlghgfnkckaebaa
