/- RootsApart, scripts that are too long. (Printed by tools/genapart.py.) RootsApart: the arguments opened. -/
import Derived.Test.YtakcnkmlglkkpaaPkW2
import Derived.Test.YtakcnkmlglkkpaaPkW4
import Derived.Test.YtakcnkmlglkkpaaPkW5
import Derived.Test.YtakcnkmlglkkpaaPkW6
import Derived.Test.YtakcnkmlglkkpaaPkW7
import Derived.Test.YtakcnkmlglkkpaaPkR41

namespace Go.Proofs.Ytakcnkmlglkkpaa
open Go.RowKit
set_option linter.unusedSimpArgs false
set_option linter.unusedVariables false
open Classical

set_option maxRecDepth 100000 in
set_option maxHeartbeats 16000000 in
theorem apart_big (w : World) (bx b2y : Bool) (lx ly : List RootT) (sx sy : List StepT) (A1 : Option Addr) (n1 c1 : Nat) (A2 : Option Addr) (n2 c2 : Nat) (A3 : Option Addr) (n3 c3 : Nat) (A4 : Option Addr) (n4 c4 : Nat) (hq : ¬ ((n2 ≤ 4096 ∧ n1 ≤ 4096) ∧ (n4 ≤ 4096 ∧ n3 ≤ 4096))) :
    Calls Try.prog 9 #[.agg (encX bx A1 n1 c1 A2 n2 c2), .agg (encX b2y A3 n3 c3 A4 n4 c4)] w fun e w' => e = .returned (.bool true) ∧ Below w.heap.size w w' := by
  obtain ⟨wa, hwa⟩ : ∃ wa, w.alloc (.cells (encX bx A1 n1 c1 A2 n2 c2) 27) = wa := ⟨_, rfl⟩
  obtain ⟨w0, hw0⟩ : ∃ w0, wa.alloc (.cells (encX b2y A3 n3 c3 A4 n4 c4) 27) = w0 := ⟨_, rfl⟩
  have sa : wa.heap.size = w.heap.size + 1 := by rw [← hwa]; simp
  have s0 : Hid (w0.heap.size = w.heap.size + 2) := Lib.hid (by rw [← hw0]; simp [sa])
  have hb0 : Hid (Below w.heap.size w w0) := Lib.hid (by rw [← hw0, ← hwa]; exact ((Below.refl _ _).alloc (Nat.le_refl _) _).alloc (by simp) _)
  have hy0 : w0.heap[w.heap.size + 1]? = some (.cells (encX b2y A3 n3 c3 A4 n4 c4) 27 (0, 0)) := by rw [← hw0, ← sa]; exact heap_alloc_new wa _
  have hx0 : w0.heap[w.heap.size]? = some (.cells (encX bx A1 n1 c1 A2 n2 c2) 27 (0, 0)) := by rw [← hw0]; exact (heap_alloc_old _ _ (by omega)).trans (by rw [← hwa]; exact heap_alloc_new w _)
  have hlt : Hid (w.heap.size < w0.heap.size) := Lib.hid (by have := s0.out; omega)
  have hlt1 : Hid (w.heap.size + 1 < w0.heap.size) := Lib.hid (by have := s0.out; omega)
  have hi3 : Hid ((Try.prog.info? 27).map (·.size) = some 3) := Lib.hid (by kernel_rfl)
  have hrx : Hid (∀ W, Below w0.heap.size w0 W → W.rangeAt w.heap.size 0 [Value.bool bx, .slice A1 n1 c1, .slice A2 n2 c2]) := Lib.hid fun W hW => range_below hlt.out (range_blk hx0) hW
  have hry : Hid (∀ W, Below w0.heap.size w0 W → W.rangeAt (w.heap.size + 1) 0 [Value.bool b2y, .slice A3 n3 c3, .slice A4 n4 c4]) := Lib.hid fun W hW => range_below hlt1.out (range_blk hy0) hW
  have hcx : Hid (∀ W, Below w0.heap.size w0 W → W.cell? ⟨w.heap.size, 2, none⟩ = some (.slice A2 n2 c2)) := Lib.hid fun W hW => (hW.cell (p := ⟨w.heap.size, 2, none⟩) hlt.out).trans (scr_c2 hx0)
  have hcy : Hid (∀ W, Below w0.heap.size w0 W → W.cell? ⟨w.heap.size + 1, 2, none⟩ = some (.slice A4 n4 c4)) := Lib.hid fun W hW => (hW.cell (p := ⟨w.heap.size + 1, 2, none⟩) hlt1.out).trans (scr_c2 hy0)
  have hsx := Lib.hid fun W => small_any W bx A1 n1 c1 A2 n2 c2
  have hsy := Lib.hid fun W => small_any W b2y A3 n3 c3 A4 n4 c4
  clear hx0 hy0
  by_cases q1 : n2 ≤ 4096 ∧ n1 ≤ 4096
  · have q2 : ¬ (n4 ≤ 4096 ∧ n3 ≤ 4096) := fun h => hq ⟨q1, h⟩
    rw [decide_eq_true q1] at hsx
    rw [decide_eq_false q2] at hsy
    clear q1 q2 hq
    go_enter Try.func9, Try.ntmps9
    go_wp2_with (first
      | (refine wpList_load_mid rfl 27 _ rfl w.heap.size 0 rfl [Value.bool bx, .slice A1 n1 c1, .slice A2 n2 c2] _ (hrx.out _ ((Below.refl _ _))) Try.underlying27 rfl hi3.out ?_)
      | (go_at_call 12; refine (hsx.out _).mono ?_; rintro e w1 ⟨rfl, hb⟩; have hd1 : Hid (Below w0.heap.size w0 w1) := Lib.hid hb; clear hb hsx)
      | (refine wpList_loadg (by rfl) 27 _ rfl (w.heap.size + 1) 0 rfl [Value.bool b2y, .slice A3 n3 c3, .slice A4 n4 c4] _ (hry.out _ (hd1.out)) Try.underlying27 rfl hi3.out ?_)
      | (go_at_call 12; refine (hsy.out _).mono ?_; rintro e w2 ⟨rfl, hb⟩; have hd2 : Hid (Below w0.heap.size w0 w2) := Lib.hid (hd1.out.trans (hb.mono hd1.out.size)); clear hb))
    go_ret
    exact ⟨rfl, hb0.out.trans (hd2.out.mono hb0.out.size)⟩
  · rw [decide_eq_false q1] at hsx
    clear q1 hq
    go_enter Try.func9, Try.ntmps9
    go_wp2_with (first
      | (refine wpList_load_mid rfl 27 _ rfl w.heap.size 0 rfl [Value.bool bx, .slice A1 n1 c1, .slice A2 n2 c2] _ (hrx.out _ ((Below.refl _ _))) Try.underlying27 rfl hi3.out ?_)
      | (go_at_call 12; refine (hsx.out _).mono ?_; rintro e w1 ⟨rfl, hb⟩; have hd1 : Hid (Below w0.heap.size w0 w1) := Lib.hid hb; clear hb hsx))
    go_ret
    exact ⟨rfl, hb0.out.trans (hd1.out.mono hb0.out.size)⟩
end Go.Proofs.Ytakcnkmlglkkpaa

namespace Go.Proofs.Ytakcnkmlglkkpaa
open Go.RowKit

theorem rootsApart_calls {H : Type} {enc : TypeId × Value → H} (W : World) (base : Nat) (v0 v1 : Value) (d0 d1 : DataW H) (p0 p1 : List MemPlace)
    (o0 : Value.okWide Try.prog W .any base 27 v0) (h0 : DataW.Trod enc Try.prog W 0 (fun _ => true) true 27 v0 d0 p0)
    (o1 : Value.okWide Try.prog W .any base 27 v1) (h1 : DataW.Trod enc Try.prog W 0 (fun _ => true) true 27 v1 d1 p1)
    (hsz : (DataW.weightsEach Try.prog [27, 27] [d0, d1]).all (· ≤ reachBytes) = true) :
    Calls Try.prog 9 #[v0, v1] W fun e W' => e = .returned (.bool true) ∧ Below W.heap.size W W' := by
  obtain ⟨b, l, ss, A1, A2, c1, c2, rfl, r1, r2, ht⟩ := script_open W base v0 d0 p0 o0 h0 (jj := 0) hsz rfl rfl
  obtain ⟨b', l', ss', A3, A4, c3, c4, rfl, r3, r4, ht'⟩ := script_open W base v1 d1 p1 o1 h1 (jj := 1) hsz rfl rfl
  by_cases hq : (ss.length ≤ 4096 ∧ l.length ≤ 4096) ∧ (ss'.length ≤ 4096 ∧ l'.length ≤ 4096)
  · obtain ⟨q1, q2⟩ := hq
    cases hx : madeQ b l with
    | none =>
      cases hy : madeQ b' l' with
      | none => exact apart_00 W b b' l l' ss ss' A1 _ c1 A2 _ c2 A3 _ c3 A4 _ c4 [] [] q1 q2 rfl rfl rfl rfl r1 r3 r2 r4 (ht q1.2) (ht' q2.2) hx hy
      | some m0 => exact apart_01 W b b' l l' ss ss' A1 _ c1 A2 _ c2 A3 _ c3 A4 _ c4 [] m0 q1 q2 rfl rfl rfl rfl r1 r3 r2 r4 (ht q1.2) (ht' q2.2) hx hy
    | some l0 =>
      cases hy : madeQ b' l' with
      | none => exact apart_10 W b b' l l' ss ss' A1 _ c1 A2 _ c2 A3 _ c3 A4 _ c4 l0 [] q1 q2 rfl rfl rfl rfl r1 r3 r2 r4 (ht q1.2) (ht' q2.2) hx hy
      | some m0 => exact apart_11 W b b' l l' ss ss' A1 _ c1 A2 _ c2 A3 _ c3 A4 _ c4 l0 m0 q1 q2 rfl rfl rfl rfl r1 r3 r2 r4 (ht q1.2) (ht' q2.2) hx hy
  · exact apart_big W b b' l l' ss ss' A1 _ c1 A2 _ c2 A3 _ c3 A4 _ c4 hq
end Go.Proofs.Ytakcnkmlglkkpaa
