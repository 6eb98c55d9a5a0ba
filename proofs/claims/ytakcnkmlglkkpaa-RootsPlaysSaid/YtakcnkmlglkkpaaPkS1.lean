/- RootsPlays, walked. (Printed by tools/genplays.py.) RootsPlays: the argument opened. -/
import Derived.Test.YtakcnkmlglkkpaaPkR39
import Derived.Test.YtakcnkmlglkkpaaPkR41

namespace Go.Proofs.Ytakcnkmlglkkpaa
open Go.RowKit
set_option linter.unusedSimpArgs false
set_option linter.unusedVariables false
open Classical

theorem buildSt (K : Int) (W : World) : (Instr.build 41 #[(0, .int .i64 K)]).run Try.prog W = .ok (.agg (encS ⟨K, ⟨#[]⟩, kZ, false, 0, 0⟩).toArray) W := run_build W _ _ _ (by kernel_rfl)
set_option maxRecDepth 100000 in
set_option maxHeartbeats 8000000 in
theorem plays_any (w : World) (b : Bool) (l : List RootT) (ss : List StepT) (A1 : Option Addr) (n1 c1 : Nat) (A2 : Option Addr) (n2 c2 : Nat) (hl : l.length = n1) (hs : ss.length = n2) (hR : RowR w w.heap.size A1 l) (hS : RowS w w.heap.size A2 ss) (ht : n1 ≤ 4096 → totS l ≤ 4611686018427387904) :
    Calls Try.prog 5 #[.agg (encX b A1 n1 c1 A2 n2 c2)] w fun e w' => e = .returned (.bool true) ∧ Below w.heap.size w w' := by
  obtain ⟨w0, hw0⟩ : ∃ w0, w.alloc (.cells (encX b A1 n1 c1 A2 n2 c2) 27) = w0 := ⟨_, rfl⟩
  have hb0 : Hid (Below w.heap.size w w0) := Lib.hid (by rw [← hw0]; exact (Below.refl _ _).alloc (Nat.le_refl _) _)
  have hx0 : w0.heap[w.heap.size]? = some (.cells (encX b A1 n1 c1 A2 n2 c2) 27 (0, 0)) := by rw [← hw0]; exact heap_alloc_new w _
  have hlt : Hid (w.heap.size < w0.heap.size) := Lib.hid (Array.getElem?_eq_some_iff.1 hx0).1
  have hi3 : Hid ((Try.prog.info? 27).map (·.size) = some 3) := Lib.hid (by kernel_rfl)
  have hi37 : Hid ((Try.prog.info? 41).map (·.size) = some 37) := Lib.hid (by kernel_rfl)
  have l37 : Hid (∀ s : StepT, (encS s).length = 37) := Lib.hid encS_length
  have hrow : Hid (∀ W, Below w0.heap.size w0 W → W.rangeAt w.heap.size 0 [Value.bool b, .slice A1 n1 c1, .slice A2 n2 c2]) := Lib.hid fun W hW => range_below hlt.out (range_blk hx0) hW
  have hc2 : Hid (∀ W, Below w0.heap.size w0 W → W.cell? ⟨w.heap.size, 2, none⟩ = some (.slice A2 n2 c2)) := Lib.hid fun W hW => (hW.cell (p := ⟨w.heap.size, 2, none⟩) hlt.out).trans (scr_c2 hx0)
  have hsm := Lib.hid fun W => small_any W b A1 n1 c1 A2 n2 c2
  clear hx0
  by_cases hq : n2 ≤ 4096 ∧ n1 ≤ 4096
  · rw [decide_eq_true hq] at hsm
    have hR0 : Hid (∀ W, Below w0.heap.size w0 W → RowR W W.heap.size A1 l) := Lib.hid fun W hW => RowR.up (B := w.heap.size) (Rd.below hR (hb0.out.trans (hW.mono hb0.out.size))) (by have := hb0.out.size; have := hW.size; omega)
    have hmd : Hid (∀ W, Below w0.heap.size w0 W → Calls Try.prog 13 #[.agg (encX b A1 n1 c1 A2 n2 c2)] W (MadeP W b l)) := Lib.hid fun W hW => made_any W b l A1 n1 c1 A2 n2 c2 hl hq.2 (hR0.out W hW) (ht hq.2)
    have hn2 := hq.1
    have hs' := Lib.hid hs
    have hS' : Hid (RowS w0 w.heap.size A2 ss) := Lib.hid (Rd.below hS hb0.out)
    clear hq hl hs hR hS ht
    cases hQ : madeQ b l with
    | none =>
      have hmn : Hid (∀ W, Below w0.heap.size w0 W → Calls Try.prog 13 #[.agg (encX b A1 n1 c1 A2 n2 c2)] W fun e w' => e = .returned (.tuple #[.pointer none, .pointer none, .bool true]) ∧ Below W.heap.size W w') := Lib.hid fun W hW => (hmd.out W hW).mono (by
        rintro e w' ⟨h1 | h1, h2⟩
        · obtain ⟨l0, h3, _⟩ := h1
          rw [hQ] at h3
          cases h3
        · exact ⟨h1.2, h2⟩)
      clear hQ hmd
      go_enter Try.func5, Try.ntmps5
      go_wp2_with (first
        | (refine wpList_load_mid rfl 27 _ rfl w.heap.size 0 rfl [Value.bool b, .slice A1 n1 c1, .slice A2 n2 c2] _ (hrow.out _ (Below.refl _ _)) Try.underlying27 rfl hi3.out ?_)
        | (go_at_call 12; refine (hsm.out _).mono ?_; rintro e w1 ⟨rfl, hb⟩; have hd1 : Hid (Below w0.heap.size w0 w1) := Lib.hid hb; clear hb)
        | (refine wpList_load_mid rfl 27 _ rfl w.heap.size 0 rfl [Value.bool b, .slice A1 n1 c1, .slice A2 n2 c2] _ (hrow.out _ hd1.out) Try.underlying27 rfl hi3.out ?_)
        | (go_at_call 13; refine (hmn.out _ hd1.out).mono ?_; rintro e w2 ⟨rfl, hb⟩; have hd2 : Hid (Below w0.heap.size w0 w2) := Lib.hid (hd1.out.trans (hb.mono hd1.out.size)); clear hb))
      go_ret
      exact ⟨rfl, hb0.out.trans (hd2.out.mono hb0.out.size)⟩
    | some l0 =>
      have hmn : Hid (∀ W, Below w0.heap.size w0 W → Calls Try.prog 13 #[.agg (encX b A1 n1 c1 A2 n2 c2)] W fun e w' => ∃ g g', e = .returned (.tuple #[.pointer (some ⟨g, 0, none⟩), .pointer (some ⟨g', 0, none⟩), .bool true]) ∧ Two w0 w' g g' [l0] [l0]) := Lib.hid fun W hW => (hmd.out W hW).mono (by
        rintro e w' ⟨h1 | h1, h2⟩
        · obtain ⟨l1, h3, g, g', A, A', h4, h5, h6⟩ := h1
          rw [hQ] at h3
          cases h3
          have hlo : Below w0.heap.size w0 w' := hW.trans (h2.mono hW.size)
          exact ⟨g, g', h4, ⟨hlo, A, h5.base hW.size⟩, ⟨hlo, A', h6.base hW.size⟩⟩
        · rw [hQ] at h1
          cases h1.1)
      clear hQ hmd
      go_enter Try.func5, Try.ntmps5
      go_wp2_with (first
        | (refine wpList_load_mid rfl 27 _ rfl w.heap.size 0 rfl [Value.bool b, .slice A1 n1 c1, .slice A2 n2 c2] _ (hrow.out _ (Below.refl _ _)) Try.underlying27 rfl hi3.out ?_)
        | (go_at_call 12; refine (hsm.out _).mono ?_; rintro e w1 ⟨rfl, hb⟩; have hd1 : Hid (Below w0.heap.size w0 w1) := Lib.hid hb; clear hb)
        | (refine wpList_load_mid rfl 27 _ rfl w.heap.size 0 rfl [Value.bool b, .slice A1 n1 c1, .slice A2 n2 c2] _ (hrow.out _ hd1.out) Try.underlying27 rfl hi3.out ?_)
        | (go_at_call 13; refine (hmn.out _ hd1.out).mono ?_; rintro e w2 ⟨g, g', rfl, hb⟩; have hT2 := Lib.hid hb; clear hb))
      go_loopw [6] (fun i wr => ∃ (k : Nat) (L : Lists), k ≤ n2 ∧ i = .int .i64 k ∧ Hid (L.length ≤ k + 1) ∧ Hid (Two w0 wr g g' L L)) (fun i _ => n2 - (intOf i).toNat)
      case atStart => exact ⟨0, [l0], by omega, rfl, Lib.hid (by simp), hT2⟩
      case round =>
        obtain ⟨k, L, hk, rfl, hLk, hT⟩ := hrel
        have cc2 := hc2.out _ hT.out.p.lo
        by_cases hlt2 : k < n2
        · obtain ⟨x, hx⟩ : ∃ x, ss[k]? = some x := ⟨_, List.getElem?_eq_getElem (by have := hs'.out; omega)⟩
          obtain ⟨b2, off, rfl, hbb, hrg⟩ := RowS.range hS'.out hx
          have hrg' : Hid (∀ W, Below w0.heap.size w0 W → W.rangeAt b2 (off + k * 37) (encS x)) := Lib.hid fun W hW => range_below (Nat.lt_trans hbb hlt.out) hrg hW
          obtain ⟨y, L2, hst⟩ : ∃ y L2, Hid (∀ _ : Unit, stepQ L x = (y, L2)) := ⟨_, _, Lib.hid fun _ => rfl⟩
          have hL2 : Hid (L2.length ≤ k + 2) := Lib.hid (by have := (stepQ_len L x).2; rw [hst.out ()] at this; have := hLk.out; simp only at *; omega)
          have hm : L.length < 100000 := by have := hLk.out; omega
          have hAs : Hid (∀ W, Two w0 W g g' L L → Calls Try.prog 14 #[.pointer (some ⟨g, 0, none⟩), .agg (encS x).toArray] W fun e w' => e = .returned (.agg (encA y).toArray) ∧ Two w0 w' g g' L2 L) := Lib.hid fun W hW => by
            have := asked_two hW hm x
            rwa [hst.out ()] at this
          have hWa : Hid (∀ W, Two w0 W g g' L2 L → Calls Try.prog 15 #[.pointer (some ⟨g', 0, none⟩), .agg (encS x).toArray] W fun e w' => e = .returned (.agg (encA y).toArray) ∧ Two w0 w' g g' L2 L2) := Lib.hid fun W hW => by
            have := wanted_two hW hT.out.p.ok hm x
            rwa [hst.out ()] at this
          have glt : (k : Int) < (n2 : Int) := by omega
          have g0 : (0 : Int) ≤ (k : Int) := by omega
          have hne := neA
          have hgu := guA
          clear hrg hx hm hbb
          go_wp2_with fail
          have hTd := Lib.hid (hT.out.drew 1)
          have hd : Hid (Below w0.heap.size w0 (World.drew wr)) := Lib.hid hTd.out.p.lo
          clear cc2
          refine wp_region_held (S := fun W => Below w0.heap.size w0 W) (by kernel_rfl) ?_
          change wpAnyH _ _ _ _ _ _ _ _ (World.drew _)
          refine takeD (i := 0) (d := 31) (v := .pointer (some ⟨g, 0, none⟩)) rfl rfl (by kernel_rfl) (by kernel_rfl) (by kernel_rfl) (fun _ _ _ h => h) (Or.inl ⟨by rfl, by intro W hW; clear hW; go_simp⟩) hd.out ?_
          simp only [List.setIfInBounds_toArray, List.set_cons_zero, List.set_cons_succ]
          refine takeD (i := 1) (d := 32) (v := .pointer (some ⟨w.heap.size, 2, none⟩)) rfl rfl (by kernel_rfl) (by kernel_rfl) (by kernel_rfl) (fun _ _ _ h => h) (Or.inl ⟨by rfl, by intro W hW; clear hW; go_simp⟩) hd.out ?_
          simp only [List.setIfInBounds_toArray, List.set_cons_zero, List.set_cons_succ]
          refine takeD (i := 2) (d := 33) (v := .slice (some ⟨b2, off, none⟩) n2 c2) rfl rfl (by kernel_rfl) (by kernel_rfl) (by kernel_rfl) (fun _ _ _ h => h) (Or.inl ⟨by rfl, by intro W hW; have cc := hc2.out W hW; clear hW; go_simp⟩) hd.out ?_
          simp only [List.setIfInBounds_toArray, List.set_cons_zero, List.set_cons_succ]
          refine takeD (i := 3) (d := 34) (v := .int .i64 (k : Int)) rfl rfl (by kernel_rfl) (by kernel_rfl) (by kernel_rfl) (fun _ _ _ h => h) (Or.inl ⟨by rfl, by intro W hW; clear hW; go_simp⟩) hd.out ?_
          simp only [List.setIfInBounds_toArray, List.set_cons_zero, List.set_cons_succ]
          refine takeD (i := 4) (d := 35) (v := .pointer (some ⟨b2, off + k * 37, none⟩)) rfl rfl (by kernel_rfl) (by kernel_rfl) (by kernel_rfl) (fun _ _ _ h => h) (Or.inl ⟨by rfl, by intro W hW; clear hW; go_simp⟩) hd.out ?_
          simp only [List.setIfInBounds_toArray, List.set_cons_zero, List.set_cons_succ]
          refine takeD (i := 5) (d := 36) rfl rfl (by kernel_rfl) (by kernel_rfl) (by kernel_rfl) (fun _ _ _ h => h) (yieldsIf_load_mid (by rfl) 41 _ rfl b2 (off + k * 37) rfl (encS x) _ hrg'.out Try.underlying41 rfl (by rw [l37.out]; exact hi37.out)) hd.out ?_
          simp only [List.setIfInBounds_toArray, List.set_cons_zero, List.set_cons_succ]
          refine takeD (i := 7) (d := 38) (v := .pointer (some ⟨g', 0, none⟩)) rfl rfl (by kernel_rfl) (by kernel_rfl) (by kernel_rfl) (fun _ _ _ h => h) (Or.inl ⟨by rfl, by intro W hW; clear hW; go_simp⟩) hd.out ?_
          simp only [List.setIfInBounds_toArray, List.set_cons_zero, List.set_cons_succ]
          refine takeD (i := 8) (d := 39) (v := .pointer (some ⟨w.heap.size, 2, none⟩)) rfl rfl (by kernel_rfl) (by kernel_rfl) (by kernel_rfl) (fun _ _ _ h => h) (Or.inl ⟨by rfl, by intro W hW; clear hW; go_simp⟩) hd.out ?_
          simp only [List.setIfInBounds_toArray, List.set_cons_zero, List.set_cons_succ]
          refine takeD (i := 9) (d := 40) (v := .slice (some ⟨b2, off, none⟩) n2 c2) rfl rfl (by kernel_rfl) (by kernel_rfl) (by kernel_rfl) (fun _ _ _ h => h) (Or.inl ⟨by rfl, by intro W hW; have cc := hc2.out W hW; clear hW; go_simp⟩) hd.out ?_
          simp only [List.setIfInBounds_toArray, List.set_cons_zero, List.set_cons_succ]
          refine takeD (i := 10) (d := 41) (v := .int .i64 (k : Int)) rfl rfl (by kernel_rfl) (by kernel_rfl) (by kernel_rfl) (fun _ _ _ h => h) (Or.inl ⟨by rfl, by intro W hW; clear hW; go_simp⟩) hd.out ?_
          simp only [List.setIfInBounds_toArray, List.set_cons_zero, List.set_cons_succ]
          refine takeD (i := 11) (d := 42) (v := .pointer (some ⟨b2, off + k * 37, none⟩)) rfl rfl (by kernel_rfl) (by kernel_rfl) (by kernel_rfl) (fun _ _ _ h => h) (Or.inl ⟨by rfl, by intro W hW; clear hW; go_simp⟩) hd.out ?_
          simp only [List.setIfInBounds_toArray, List.set_cons_zero, List.set_cons_succ]
          refine takeD (i := 12) (d := 43) rfl rfl (by kernel_rfl) (by kernel_rfl) (by kernel_rfl) (fun _ _ _ h => h) (yieldsIf_load_mid (by rfl) 41 _ rfl b2 (off + k * 37) rfl (encS x) _ hrg'.out Try.underlying41 rfl (by rw [l37.out]; exact hi37.out)) hd.out ?_
          simp only [List.setIfInBounds_toArray, List.set_cons_zero, List.set_cons_succ]
          refine wpAnyH_ready (rs := [6]) (by kernel_rfl) (by simp) ?_
          refine AllReadyH.cons rfl (fun K hK => ?_) AllReadyH.nil
          go_simp
          go_wp2_with (go_at_call 14; refine (hAs.out _ hTd.out).mono ?_; rintro e v1 ⟨rfl, t1⟩; skip)
          have hT1 := Lib.hid t1
          have hd1 : Hid (Below w0.heap.size w0 v1) := Lib.hid t1.p.lo
          clear t1
          refine hK.out _ _ hd1.out (fun _ => ?_)
          clear hK K
          refine wpAnyH_ready (rs := [13]) (by kernel_rfl) (by simp) ?_
          refine AllReadyH.cons rfl (fun K hK => ?_) AllReadyH.nil
          go_simp
          go_wp2_with (go_at_call 15; refine (hWa.out _ hT1.out).mono ?_; rintro e v2 ⟨rfl, t2⟩; skip)
          have hT2 := Lib.hid t2
          have hd2 : Hid (Below w0.heap.size w0 v2) := Lib.hid t2.p.lo
          clear t2
          refine hK.out _ _ hd2.out (fun _ => ?_)
          clear hK K
          refine takeD (i := 14) (d := 45) (v := .bool false) rfl rfl (by kernel_rfl) (by kernel_rfl) (by kernel_rfl) (fun _ _ _ h => h) (Or.inl ⟨by rfl, by intro W hW; clear hW; go_simp⟩) hd2.out ?_
          simp only [List.setIfInBounds_toArray, List.set_cons_zero, List.set_cons_succ]
          refine wpAnyH_done (by kernel_rfl) ?_ _
          clear hne hgu
          go_wp2_with fail
          go_roundw
          case rel => exact ⟨k + 1, L2, by omega, by go_num, hL2, hT2⟩
          case measure => simp [intOf]; omega
        · have glt : ¬ ((k : Int) < (n2 : Int)) := by omega
          go_wp2_with fail
          have hLn := Lib.hid (show L.length ≤ 4097 by have := hLk.out; omega)
          clear cc2 glt
          go_loopw [7] (fun i wz => ∃ K : Nat, 5 ≤ K ∧ K ≤ 8 ∧ i = .int .i64 K ∧ Hid (Two w0 wz g g' L L)) (fun i _ => 8 - (intOf i).toNat)
          case atStart => exact ⟨5, by omega, by omega, rfl, hT⟩
          case round =>
            obtain ⟨K, hK5, hK8, rfl, hTz⟩ := hrel
            by_cases hK7 : K ≤ 7
            · obtain ⟨y, hst⟩ : ∃ y, Hid (∀ _ : Unit, stepQ L ⟨(K : Int), ⟨#[]⟩, kZ, false, 0, 0⟩ = (y, L)) := by
                obtain rfl | rfl | rfl : K = 5 ∨ K = 6 ∨ K = 7 := by omega
                · exact ⟨_, Lib.hid fun _ => rfl⟩
                · exact ⟨_, Lib.hid fun _ => rfl⟩
                · exact ⟨_, Lib.hid fun _ => rfl⟩
              have hm : L.length < 100000 := by have := hLn.out; omega
              have hAs : Hid (∀ W, Two w0 W g g' L L → Calls Try.prog 14 #[.pointer (some ⟨g, 0, none⟩), .agg (encS ⟨(K : Int), ⟨#[]⟩, kZ, false, 0, 0⟩).toArray] W fun e w' => e = .returned (.agg (encA y).toArray) ∧ Two w0 w' g g' L L) := Lib.hid fun W hW => by
                have := asked_two hW hm ⟨(K : Int), ⟨#[]⟩, kZ, false, 0, 0⟩
                rwa [hst.out ()] at this
              have hWa : Hid (∀ W, Two w0 W g g' L L → Calls Try.prog 15 #[.pointer (some ⟨g', 0, none⟩), .agg (encS ⟨(K : Int), ⟨#[]⟩, kZ, false, 0, 0⟩).toArray] W fun e w' => e = .returned (.agg (encA y).toArray) ∧ Two w0 w' g g' L L) := Lib.hid fun W hW => by
                have := wanted_two hW hT.out.p.ok hm ⟨(K : Int), ⟨#[]⟩, kZ, false, 0, 0⟩
                rwa [hst.out ()] at this
              have gK : (K : Int) ≤ 7 := by omega
              have hne := neA
              have hgu := guA
              clear hm
              go_wp2_with (first
                | (go_at_call 14; refine (hAs.out _ hTz.out).mono ?_; rintro e v1 ⟨rfl, t1⟩; have hT1 := Lib.hid t1; clear t1)
                | (go_at_call 15; refine (hWa.out _ hT1.out).mono ?_; rintro e v2 ⟨rfl, t2⟩; have hT2 := Lib.hid t2; clear t2))
              go_roundw
              case rel => exact ⟨K + 1, by omega, by omega, by go_num, hT2⟩
              case measure => simp [intOf]; omega
            · have gK : ¬ ((K : Int) ≤ 7) := by omega
              go_wp2_with fail
              go_ret
              exact ⟨rfl, hb0.out.trans (hTz.out.p.lo.mono hb0.out.size)⟩
  · rw [decide_eq_false hq] at hsm
    clear hq hl hs hR hS ht
    go_enter Try.func5, Try.ntmps5
    go_wp2_with (first
      | (refine wpList_load_mid rfl 27 _ rfl w.heap.size 0 rfl [Value.bool b, .slice A1 n1 c1, .slice A2 n2 c2] _ (hrow.out _ (Below.refl _ _)) Try.underlying27 rfl hi3.out ?_)
      | (go_at_call 12; refine (hsm.out _).mono ?_; rintro e w1 ⟨rfl, hb⟩; have hb1 := Lib.hid hb; clear hb))
    go_ret
    exact ⟨rfl, hb0.out.trans (hb1.out.mono hb0.out.size)⟩
end Go.Proofs.Ytakcnkmlglkkpaa

namespace Go.Proofs.Ytakcnkmlglkkpaa
open Go.RowKit

theorem rootsPlays_calls {H : Type} {enc : TypeId × Value → H} (W : World) (base : Nat) (v0 : Value) (d0 : DataW H) (p0 : List MemPlace)
    (o0 : Value.okWide Try.prog W .any base 27 v0) (h0 : DataW.Trod enc Try.prog W 0 (fun _ => true) true 27 v0 d0 p0)
    (hsz : (DataW.weightsEach Try.prog [27] [d0]).all (· ≤ reachBytes) = true) :
    Calls Try.prog 5 #[v0] W fun e W' => e = .returned (.bool true) ∧ Below W.heap.size W W' := by
  obtain ⟨b, l, ss, A1, A2, c1, c2, rfl, r1, r2, ht⟩ := script_open W base v0 d0 p0 o0 h0 (jj := 0) hsz rfl rfl
  exact plays_any W b l ss A1 _ c1 A2 _ c2 rfl rfl r1 r2 ht
end Go.Proofs.Ytakcnkmlglkkpaa
