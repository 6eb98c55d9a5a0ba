/- GearSpreads: the law's walk; the argument opened. -/
import Derived.Test.YtnjbpacnmiimlaaGfI
import Derived.Test.YtnjbpacnmiimlaaArgs
namespace Go.Proofs.Ytnjbpacnmiimlaa
open Go.RowKit

theorem bld35 (w : World) : (Instr.build 33 #[(0, .int .i64 2), (1, .int .i64 3), (2, .int .i64 5), (3, .float .f64 4616189618054758400), (4, .float .f64 4607182418800017408)]).run Try.prog w = .ok (.agg (spR 2 3 5 4616189618054758400 4607182418800017408)) w :=
  run_build w _ _ _ (by kernel_rfl)
set_option maxRecDepth 20000 in
set_option maxHeartbeats 2000000 in
theorem spreads_any (g : Nat → Int) (A : Option Addr) (N c : Nat) (w : World) (hg : ∀ i, (g i).natAbs ≤ 2 ^ 63) (hN : N ≤ 17592186044416) (hA : Is w w.heap.size A N g) :
    Calls Try.prog 4 #[.slice A N c] w fun e w' => e = .returned (.bool true) ∧ Below w.heap.size w w' := by
  have hA' := Lib.hid hA
  have hg' := Lib.hid hg
  obtain ⟨a, b, d, m, r, hsp, hm, hr⟩ := spV_form g N hg (by omega)
  have hsp' := Lib.hid hsp
  have h35 := fun W => eql_spread 2 3 5 4616189618054758400 4607182418800017408 (by unfold Fl.NN; decide +kernel) (by unfold Fl.NN; decide +kernel) W
  have heq := fun W => eql_spread a b d m r hm hr W
  have hbl := bld35
  have hsf : ∀ (W : World) (a : Addr) (x : Nat) (m : Mode), (store a (.float .f64 x) m).run Try.prog W = stored Try.prog W a (.float .f64 x) m := fun W a x m => run_store Try.prog W a _ m rfl
  unfold spR at h35 heq hbl
  clear hA hg hsp hm hr
  go_enter Try.func4, Try.ntmps4
  go_wp2_with (at_builtin; refine wpList_app el_I _ rfl _ _ rfl rfl (Own.nil _ w.heap.size _ _) rfl (by rw [Nat.mul_one]; exact hA'.out) (fun j _ => rfl) (by unfold maxLen; omega) (by omega) (Nat.le_refl _) N (by omega) _ rfl ?_; intro A2 c2 w2 own2 at2 b2; have own2' := Lib.hid own2; have b2' := Lib.hid b2; clear own2 at2 b2)
  have hc1 := refSpread_any g A N c w2 hg'.out (by omega) ((hA'.out.below b2'.out).mono b2'.out.size)
  rw [hsp'.out] at hc1
  unfold spR at hc1
  refine hc1.mono ?_
  rintro e w3 ⟨rfl, b3⟩
  clear hc1
  have b3' := Lib.hid (b2'.out.trans (b3.mono b2'.out.size))
  have own3 := Lib.hid (own2'.out.below b3 (fun k hk => (own2'.out.lt k hk).2))
  clear b3 b2' own2'
  go_wp2_with fail
  have bx := Lib.hid (b3'.out.alloc b3'.out.size (.cells #[.int .i64 a, .int .i64 b, .int .i64 d, .float .f64 m, .float .f64 r] 33))
  have ox := Lib.hid (own3.out.alloc (.cells #[.int .i64 a, .int .i64 b, .int .i64 d, .float .f64 m, .float .f64 r] 33))
  have rx := Lib.hid (heap_alloc_new w3 (.cells #[.int .i64 a, .int .i64 b, .int .i64 d, .float .f64 m, .float .f64 r] 33))
  generalize w3.alloc (.cells #[.int .i64 a, .int .i64 b, .int .i64 d, .float .f64 m, .float .f64 r] 33) = x3 at bx ox rx ⊢
  obtain ⟨G1, hG1⟩ : ∃ G1, w3.heap.size = G1 := ⟨_, rfl⟩
  rw [hG1] at rx ⊢
  clear hG1 b3' own3
  have hc2 := spread_any g A2 N c2 x3 hg'.out (by omega) (by have := ox.out.rd; rw [Nat.mul_one] at this; exact this.congr fun j hj => by simp [hj])
  rw [hsp'.out] at hc2
  unfold spR at hc2
  refine hc2.mono ?_
  rintro e w4 ⟨rfl, b4⟩
  clear hc2
  have b4' := Lib.hid (bx.out.trans (b4.mono bx.out.size))
  have o4 := Lib.hid (ox.out.below b4 (fun k hk => (ox.out.lt k hk).2))
  have r4 := Lib.hid ((b4.block _ (Array.getElem?_eq_some_iff.1 rx.out).1).trans rx.out)
  clear b4 bx ox rx
  go_wp2_with fail
  have bx := Lib.hid (b4'.out.alloc b4'.out.size (.cells #[.int .i64 a, .int .i64 b, .int .i64 d, .float .f64 m, .float .f64 r] 33))
  have ox := Lib.hid (o4.out.alloc (.cells #[.int .i64 a, .int .i64 b, .int .i64 d, .float .f64 m, .float .f64 r] 33))
  have rx := Lib.hid ((heap_alloc_old w4 (.cells #[.int .i64 a, .int .i64 b, .int .i64 d, .float .f64 m, .float .f64 r] 33) (Array.getElem?_eq_some_iff.1 r4.out).1).trans r4.out)
  have sx := Lib.hid (heap_alloc_new w4 (.cells #[.int .i64 a, .int .i64 b, .int .i64 d, .float .f64 m, .float .f64 r] 33))
  have hsz : (w4.alloc (.cells #[.int .i64 a, .int .i64 b, .int .i64 d, .float .f64 m, .float .f64 r] 33)).heap.size = w4.heap.size + 1 := by simp
  generalize w4.alloc (.cells #[.int .i64 a, .int .i64 b, .int .i64 d, .float .f64 m, .float .f64 r] 33) = x5 at bx ox rx sx hsz ⊢
  obtain ⟨G2, hG2⟩ : ∃ G2, w4.heap.size = G2 := ⟨_, rfl⟩
  rw [hG2] at sx hsz ⊢
  clear hG2 b4' o4 r4
  have hc3 := spread_any g35 (some ⟨x5.heap.size, 0, none⟩) 2 2 (x5.alloc (.cells #[.int .i64 3, .int .i64 5] 3)) g35_le (by omega) ((is35 x5).mono (by simp))
  rw [spV35, hsz] at hc3
  unfold spR at hc3
  refine hc3.mono ?_
  rintro e w6 ⟨rfl, b6⟩
  clear hc3
  have b35 : Below x5.heap.size x5 w6 := ((Below.refl _ _).alloc (Nat.le_refl _) _).trans (b6.mono (by simp))
  have b6' := Lib.hid (bx.out.trans (b35.mono bx.out.size))
  have o6 := Lib.hid (ox.out.below b35 (fun k hk => (ox.out.lt k hk).2))
  have r6 := Lib.hid ((b35.block _ (Array.getElem?_eq_some_iff.1 rx.out).1).trans rx.out)
  have s6 := Lib.hid ((b35.block _ (Array.getElem?_eq_some_iff.1 sx.out).1).trans sx.out)
  clear b6 b35 bx ox rx sx hsz
  have b7 := Lib.hid (b6'.out.alloc b6'.out.size (.cells #[.int .i64 2, .int .i64 3, .int .i64 5, .float .f64 4616189618054758400, .float .f64 4607182418800017408] 33))
  have o7 := Lib.hid (o6.out.alloc (.cells #[.int .i64 2, .int .i64 3, .int .i64 5, .float .f64 4616189618054758400, .float .f64 4607182418800017408] 33))
  have R1 := (heap_alloc_old w6 (.cells #[.int .i64 2, .int .i64 3, .int .i64 5, .float .f64 4616189618054758400, .float .f64 4607182418800017408] 33) (Array.getElem?_eq_some_iff.1 r6.out).1).trans r6.out
  have R2 := (heap_alloc_old w6 (.cells #[.int .i64 2, .int .i64 3, .int .i64 5, .float .f64 4616189618054758400, .float .f64 4607182418800017408] 33) (Array.getElem?_eq_some_iff.1 s6.out).1).trans s6.out
  have u0 := cell_of_row _ _ 0 _ _ _ R1
  have u1 := cell_of_row _ _ 1 _ _ _ R1
  have u2 := cell_of_row _ _ 2 _ _ _ R1
  have u3 := cell_of_row _ _ 3 _ _ _ R1
  have u4 := cell_of_row _ _ 4 _ _ _ R1
  have v0 := cell_of_row _ _ 0 _ _ _ R2
  have v1 := cell_of_row _ _ 1 _ _ _ R2
  have v2 := cell_of_row _ _ 2 _ _ _ R2
  have v3 := cell_of_row _ _ 3 _ _ _ R2
  have v4 := cell_of_row _ _ 4 _ _ _ R2
  simp only [List.getElem?_toArray, List.getElem?_cons_zero, List.getElem?_cons_succ] at u0 u1 u2 u3 u4 v0 v1 v2 v3 v4
  clear R1 R2
  have hin := Lib.hid (intsS_eq A2 A c2 c N g _ _ (w6.alloc (.cells #[.int .i64 2, .int .i64 3, .int .i64 5, .float .f64 4616189618054758400, .float .f64 4607182418800017408] 33)) (by omega) (by have := o7.out.rd; rw [Nat.mul_one] at this; exact this.congr fun j hj => by simp [hj]) (hA'.out.below b7.out))
  go_wp2_with (go_at_call 12; refine hin.out.mono ?_; rintro e w8 ⟨rfl, mq, rfl⟩)
  go_ret
  exact ⟨rfl, below_drewN b7.out _⟩

open Go.ChangeShapes Go.WideShapes in
theorem gearSpreads_calls {H : Type} {enc : TypeId × Value → H} (W : World) (base : Nat) (v0 : Value) (d0 : DataW H) (p0 : List MemPlace)
    (o0 : Value.okWide Try.prog W .any base 30 v0) (h0 : DataW.Trod enc Try.prog W 0 (fun _ => true) true 30 v0 d0 p0)
    (hsz : (DataW.weightsEach Try.prog [30] [d0]).all (· ≤ reachBytes) = true) :
    Calls Try.prog 4 #[v0] W fun e W' => e = .returned (.bool true) ∧ Below W.heap.size W W' := by
  obtain ⟨A, c, zs, rfl, hl, hc, hr, hh, hw⟩ := arg_ints Try.underlying30 Try.underlying3 (by kernel_rfl) o0 h0
  have hs := hh.reach hsz (j := 0) rfl rfl Try.underlying30 (size := 8) (by kernel_rfl)
  have hN : zs.length ≤ 17592186044416 := by
    unfold reachBytes at hs
    omega
  refine spreads_any (fun j => zs[j]?.getD 0) A zs.length c W (fun i => ?_) hN hr
  by_cases hi : i < zs.length
  · have h := hw _ (List.getElem_mem hi)
    simp only [List.getElem?_eq_getElem hi, Option.getD_some]
    simp [Lit.wf, IntKind.min, IntKind.max, IntKind.signed, IntKind.bits] at h
    omega
  · simp [List.getElem?_eq_none (show zs.length ≤ i by omega)]
end Go.Proofs.Ytnjbpacnmiimlaa
