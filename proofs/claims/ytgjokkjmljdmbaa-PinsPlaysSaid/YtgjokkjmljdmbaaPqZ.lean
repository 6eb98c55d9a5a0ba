/- nil Pins: what each call tells; nothing. (Printed by tools/genpq7.py.) -/
import Derived.Test.YtgjokkjmljdmbaaPqG
namespace Go.Proofs.Ytgjokkjmljdmbaa
open Go.RowKit Go.Maps
set_option linter.unusedSimpArgs false
set_option linter.unusedVariables false

set_option maxRecDepth 100000 in
theorem nLive (w : World) : Calls Try.prog 16 #[.pointer none] w fun e w' => e = .returned (.bool false) ∧ w' = w := by
  go_enter Try.func16, Try.ntmps16
  go_wp2_with fail
  go_ret
  exact ⟨rfl, rfl⟩
set_option maxRecDepth 100000 in
theorem nOpenS (w : World) (s : Int) : Calls Try.prog 20 #[.pointer none, .int .i64 s] w fun e w' => e = .returned (.pointer none) ∧ w' = w := by
  go_enter Try.func20, Try.ntmps20
  go_wp2_with (go_at_call 16; refine (nLive _).mono ?_; rintro e w5 ⟨rfl, rfl⟩)
  go_ret
  exact ⟨rfl, rfl⟩
set_option maxRecDepth 100000 in
theorem nFound (w : World) (s : Int) : Calls Try.prog 18 #[.pointer none, .int .i64 s] w fun e w' => e = .returned (.tuple #[.pointer none, .int .i64 1]) ∧ w' = w := by
  go_enter Try.func18, Try.ntmps18
  go_wp2_with (go_at_call 16; refine (nLive _).mono ?_; rintro e w5 ⟨rfl, rfl⟩)
  go_ret2
  exact ⟨rfl, rfl⟩
set_option maxRecDepth 100000 in
theorem nOpen (w : World) (s : Int) : Calls Try.prog 6 #[.pointer none, .int .i64 s] w fun e w' => e = .returned (.int .i64 1) ∧ w' = w := by
  go_enter Try.func6, Try.ntmps6
  go_wp2_with (go_at_call 16; refine (nLive _).mono ?_; rintro e w5 ⟨rfl, rfl⟩)
  go_ret
  exact ⟨rfl, rfl⟩
set_option maxRecDepth 100000 in
theorem nClose (w : World) (s : Int) : Calls Try.prog 23 #[.pointer none, .int .i64 s] w fun e w' => e = .returned (.int .i64 1) ∧ w' = w := by
  go_enter Try.func23, Try.ntmps23
  go_wp2_with (go_at_call 18; refine (nFound _ _).mono ?_; rintro e w5 ⟨rfl, rfl⟩)
  go_ret
  exact ⟨rfl, rfl⟩
set_option maxRecDepth 100000 in
theorem nEnter (w : World) (s : Int) : Calls Try.prog 27 #[.pointer none, .int .i64 s] w fun e w' => e = .returned (.int .i64 1) ∧ w' = w := by
  go_enter Try.func27, Try.ntmps27
  go_wp2_with (go_at_call 18; refine (nFound _ _).mono ?_; rintro e w5 ⟨rfl, rfl⟩)
  go_ret
  exact ⟨rfl, rfl⟩
set_option maxRecDepth 100000 in
theorem nLeave (w : World) (s : Int) : Calls Try.prog 29 #[.pointer none, .int .i64 s] w fun e w' => e = .returned (.int .i64 1) ∧ w' = w := by
  go_enter Try.func29, Try.ntmps29
  go_wp2_with (go_at_call 18; refine (nFound _ _).mono ?_; rintro e w5 ⟨rfl, rfl⟩)
  go_ret
  exact ⟨rfl, rfl⟩
set_option maxRecDepth 100000 in
theorem nIsOpen (w : World) (s : Int) : Calls Try.prog 32 #[.pointer none, .int .i64 s] w fun e w' => e = .returned (.bool false) ∧ w' = w := by
  go_enter Try.func32, Try.ntmps32
  go_wp2_with (go_at_call 20; refine (nOpenS _ _).mono ?_; rintro e w5 ⟨rfl, rfl⟩)
  go_ret
  exact ⟨rfl, rfl⟩
set_option maxRecDepth 100000 in
theorem nBusy (w : World) (s : Int) : Calls Try.prog 33 #[.pointer none, .int .i64 s] w fun e w' => e = .returned (.int .i64 0) ∧ w' = w := by
  go_enter Try.func33, Try.ntmps33
  go_wp2_with (go_at_call 20; refine (nOpenS _ _).mono ?_; rintro e w5 ⟨rfl, rfl⟩)
  go_ret
  exact ⟨rfl, rfl⟩
set_option maxRecDepth 100000 in
theorem nPin (w : World) (s : Int) (x : List Nat) : Calls Try.prog 7 #[.pointer none, .int .i64 s, .agg (u8s x).toArray] w fun e w' => e = .returned (.int .i64 1) ∧ Below w.heap.size w w' := by
  obtain ⟨w1, hw1⟩ : ∃ w1, w.alloc (.cells (u8s x).toArray 29) = w1 := ⟨_, rfl⟩
  have hB : Hid (Below w.heap.size w w1) := Lib.hid (by rw [← hw1]; exact (Below.refl _ _).alloc (Nat.le_refl _) _)
  go_enter Try.func7, Try.ntmps7
  go_wp2_with (go_at_call 18; (first | rw [hw1] | skip); refine (nFound _ _).mono ?_; rintro e w5 ⟨rfl, h5⟩; have h6 := h5.symm; clear h5; subst h6)
  go_ret
  exact ⟨rfl, hB.out⟩
set_option maxRecDepth 100000 in
theorem nHas (w : World) (s : Int) (x : List Nat) : Calls Try.prog 10 #[.pointer none, .int .i64 s, .agg (u8s x).toArray] w fun e w' => e = .returned (.bool false) ∧ Below w.heap.size w w' := by
  obtain ⟨w1, hw1⟩ : ∃ w1, w.alloc (.cells (u8s x).toArray 29) = w1 := ⟨_, rfl⟩
  have hB : Hid (Below w.heap.size w w1) := Lib.hid (by rw [← hw1]; exact (Below.refl _ _).alloc (Nat.le_refl _) _)
  go_enter Try.func10, Try.ntmps10
  go_wp2_with (go_at_call 20; (first | rw [hw1] | skip); refine (nOpenS _ _).mono ?_; rintro e w5 ⟨rfl, h5⟩; have h6 := h5.symm; clear h5; subst h6)
  go_quiet (fail)
  go_wp2_with fail
  go_ret
  exact ⟨rfl, below_drewN hB.out _⟩
set_option maxRecDepth 100000 in
theorem nCount (w : World) (x : List Nat) (hx : x.length = 32) : Calls Try.prog 11 #[.pointer none, .agg (u8s x).toArray] w fun e w' => e = .returned (.int .i64 0) ∧ Below w.heap.size w w' := by
  obtain ⟨w1, hw1⟩ : ∃ w1, w.alloc (.cells (u8s x).toArray 29) = w1 := ⟨_, rfl⟩
  obtain ⟨g, hg⟩ : ∃ g, w.heap.size = g := ⟨_, rfl⟩
  have hB : Hid (Below w.heap.size w w1) := Lib.hid (by rw [← hw1]; exact (Below.refl _ _).alloc (Nat.le_refl _) _)
  have hk1 : Hid (w1.heap[g]? = some (.cells (u8s x).toArray 29 (0, 0))) := Lib.hid (by rw [← hw1, ← hg]; exact heap_alloc_new w _)
  have hi32 : Hid ((Try.prog.info? 29).map (·.size) = some 32) := Lib.hid (by kernel_rfl)
  have hs32 : Hid ((u8s x).toArray.size = 32) := Lib.hid (by simp [u8s, hx])
  clear hx
  go_enter Try.func11, Try.ntmps11
  go_wp2_with fail
  go_loopw [5, 7] (fun n iv wr => ∃ k : Nat, k ≤ 16 ∧ iv = .int .i64 (k : Int) ∧ n = .int .i64 0 ∧ Hid (Below w1.heap.size w1 wr)) (fun _ iv _ => 16 - (intOf iv).toNat)
  case atStart => exact ⟨0, by omega, rfl, rfl, Lib.hid (Below.refl _ _)⟩
  case round =>
    obtain ⟨k, hk, rfl, rfl, hb⟩ := hrel
    by_cases hlt : k < 16
    · have hkr := Lib.hid ((hb.out.block _ (Array.getElem?_eq_some_iff.1 hk1.out).1).trans hk1.out)
      go_wp2_with (first
        | (refine wpList_load_row rfl 29 _ rfl g rfl 29 (u8s x).toArray (0, 0) _ hkr.out Try.underlying29 rfl (by rw [hs32.out]; exact hi32.out) ?_)
        | (go_at_call 10; refine (nHas wr k x).mono ?_; rintro e w6 ⟨rfl, b6⟩; have b6' := Lib.hid b6; clear b6))
      go_roundw
      case rel => exact ⟨k + 1, by omega, by go_num, rfl, Lib.hid (hb.out.trans (b6'.out.mono hb.out.size))⟩
      case measure => simp [intOf]; omega
    · go_wp2_with fail
      go_ret
      exact ⟨rfl, hB.out.trans (hb.out.mono hB.out.size)⟩
set_option maxRecDepth 100000 in
theorem nSessions (w : World) : Calls Try.prog 34 #[.pointer none] w fun e w' => e = .returned (.slice none 0 0) ∧ w' = w := by
  go_enter Try.func34, Try.ntmps34
  go_wp2_with fail
  go_loopw [3, 6] (fun ov iv wr => ∃ k : Nat, k ≤ 16 ∧ ov = .slice none 0 0 ∧ iv = .int .i64 (k : Int) ∧ wr = w) (fun _ iv _ => 16 - (intOf iv).toNat)
  case atStart => exact ⟨0, by omega, rfl, rfl, rfl⟩
  case round =>
    obtain ⟨k, hk, rfl, rfl, rfl⟩ := hrel
    by_cases hlt : k < 16
    · go_wp2_with (go_at_call 20; refine (nOpenS _ _).mono ?_; rintro e w5 ⟨rfl, rfl⟩)
      go_roundw
      case rel => exact ⟨k + 1, by omega, rfl, by go_num, trivial⟩
      case measure => simp [intOf]; omega
    · go_wp2_with fail
      go_ret
      exact ⟨rfl, rfl⟩
set_option maxRecDepth 100000 in
theorem nNext (w : World) (s : Int) (x : List Nat) (any : Bool) : Calls Try.prog 8 #[.pointer none, .int .i64 s, .agg (u8s x).toArray, .bool any] w fun e w' => e = .returned (.tuple #[.agg (u8s (zeros 32)).toArray, .bool false]) ∧ Below w.heap.size w w' := by
  have hzk := zeroQy
  have hi32 : Hid ((Try.prog.info? 29).map (·.size) = some 32) := Lib.hid (by kernel_rfl)
  have hzs : Hid ((u8s (zeros 32)).toArray.size = 32) := Lib.hid (by simp [u8s, zeros])
  obtain ⟨g, hg⟩ : ∃ g, w.heap.size = g := ⟨_, rfl⟩
  obtain ⟨w1, hw1⟩ : ∃ w1, (w.alloc (.cells (u8s x).toArray 29)).alloc (.cells (u8s (zeros 32)).toArray 29) = w1 := ⟨_, rfl⟩
  have hb1 : Hid (Below w.heap.size w w1) := Lib.hid (by rw [← hw1]; exact ((Below.refl _ _).alloc (Nat.le_refl _) _).alloc (by simp) _)
  have hres1 : Hid (w1.heap[g + 1]? = some (.cells (u8s (zeros 32)).toArray 29 (0, 0))) := Lib.hid (by
    rw [← hw1, ← hg]
    have := heap_alloc_new (w.alloc (.cells (u8s x).toArray 29)) (.cells (u8s (zeros 32)).toArray 29)
    simpa using this)
  go_enter Try.func8, Try.ntmps8
  go_wp2_with (first
    | (go_at_call 20; (first | rw [hw1] | skip); refine (nOpenS _ _).mono ?_; rintro e w5 ⟨rfl, h5⟩; have h6 := h5.symm; clear h5; subst h6)
    | (refine wpList_blN rfl 29 _ rfl #[] (by rfl) _ (fun W => zeroKN W) ?_)
    | (refine wpList_store_row rfl 29 _ _ rfl (g + 1) (u8s (zeros 32)).toArray rfl rfl 29 _ hres1.out (by rw [hzs.out]; exact hi32.out) rfl (all_oneCell_toArray u8s_one) ?_))
  refine bodyPost_ret (res_row_tmp rfl _ _ (g + 1) 29 _ (0, 0) _ (.bool false) rfl rfl (setRow_heap _ (g + 1) _ (u8s (zeros 32)).toArray 29 _ hres1.out) Try.underlying29 rfl (by rw [hzs.out]; exact hi32.out)) rfl ?_
  exact ⟨rfl, setRow_below hb1.out (by omega) _⟩
set_option maxRecDepth 100000 in
set_option maxHeartbeats 2000000 in
theorem nothing_any (w : World) : Calls Try.prog 15 #[] w fun e w' => e = .returned (.bool true) ∧ Below w.heap.size w w' := by
  have hzk := zeroQy
  have hi32 : Hid ((Try.prog.info? 29).map (·.size) = some 32) := Lib.hid (by kernel_rfl)
  have hz := Lib.hid zeroKN
  have hl0 : (zeros 32).length = 32 := by simp [zeros]
  have hN := Lib.hid (nNext w 0 (zeros 32) true)
  have hP := Lib.hid (fun W => nPin W 0 (zeros 32))
  have hH := Lib.hid (fun W => nHas W 0 (zeros 32))
  have hC := Lib.hid (fun W => nCount W (zeros 32) hl0)
  have hzs : Hid ((u8s (zeros 32)).toArray.size = 32) := Lib.hid (by simp [u8s, zeros])
  have hone : Hid ((u8s (zeros 32)).toArray.all (·.oneCell') = true) := Lib.hid (all_oneCell_toArray u8s_one)
  generalize (u8s (zeros 32)).toArray = zv at hzk hz hN hP hH hC hzs hone
  clear hl0
  go_enter Try.func15, Try.ntmps15
  go_wp2_with (first
    | (refine wpList_bl_gQ (by rfl) 29 _ rfl #[] (by rfl) _ (fun W => hz.out W) ?_)
    | (go_at_call 8; refine hN.out.mono ?_; rintro e w1 ⟨rfl, b1⟩; have hB1 := Lib.hid b1; clear b1 hN)
    | (refine wpList_store_row rfl 29 _ _ rfl w1.heap.size zv rfl rfl 29 _ (heap_alloc_new w1 _) (by rw [hzs.out]; exact hi32.out) rfl hone.out ?_
       have hB2 : Hid (Below w.heap.size w ((w1.alloc (.cells zv 29)).setRow w1.heap.size zv)) := Lib.hid (setRow_below (hB1.out.alloc hB1.out.size _) hB1.out.size _)
       generalize (w1.alloc (.cells zv 29)).setRow w1.heap.size zv = w2 at hB2 ⊢
       clear hB1)
    | (go_at_call 6; refine (nOpen _ _).mono ?_; rintro e w5 ⟨rfl, rfl⟩)
    | (go_at_call 23; refine (nClose _ _).mono ?_; rintro e w5 ⟨rfl, rfl⟩)
    | (go_at_call 27; refine (nEnter _ _).mono ?_; rintro e w5 ⟨rfl, rfl⟩)
    | (go_at_call 29; refine (nLeave _ _).mono ?_; rintro e w5 ⟨rfl, rfl⟩)
    | (go_at_call 32; refine (nIsOpen _ _).mono ?_; rintro e w5 ⟨rfl, rfl⟩)
    | (go_at_call 33; refine (nBusy _ _).mono ?_; rintro e w5 ⟨rfl, rfl⟩)
    | (go_at_call 34; refine (nSessions _).mono ?_; rintro e w5 ⟨rfl, rfl⟩)
    | (go_at_call 7; refine (hP.out _).mono ?_; rintro e w3 ⟨rfl, b3⟩; have hB3 := Lib.hid (hB2.out.trans (b3.mono hB2.out.size)); clear b3 hP hB2)
    | (go_at_call 10; refine (hH.out _).mono ?_; rintro e w4 ⟨rfl, b4⟩; have hB4 := Lib.hid (hB3.out.trans (b4.mono hB3.out.size)); clear b4 hH hB3)
    | (go_at_call 11; refine (hC.out _).mono ?_; rintro e w6 ⟨rfl, b6⟩; have hB6 := Lib.hid (hB4.out.trans (b6.mono hB4.out.size)); clear b6 hC hB4))
  go_ret
  exact ⟨rfl, hB6.out⟩
end Go.Proofs.Ytgjokkjmljdmbaa
