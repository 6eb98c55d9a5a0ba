/- BloomBest: the law's walk. -/
import Derived.Test.YtlghgfnkckaebaaBest
import Derived.Test.YtlghgfnkckaebaaOwn
import Derived.Test.YtlghgfnkckaebaaArgs
namespace Go.Proofs.Ytlghgfnkckaebaa
open Go.RowKit

def nanBits : Nat := 9221120237041090561
theorem frombits (w : World) : (callFunc 36 #[.int .u64 9221120237041090561]).run Try.prog w = .ok (.value (.float .f64 nanBits)) w := by kernel_rfl

theorem nan_any (w : World) : Calls Try.prog 12 #[] w fun e w' => e = .returned (.float .f64 nanBits) ∧ w = w' := by
  have hf := frombits
  go_enter Try.func12, Try.ntmps12
  go_wp2
  go_ret
  exact ⟨rfl, rfl⟩

theorem same_refl (x : Nat) (w : World) : Calls Try.prog 14 #[.float .f64 x, .float .f64 x] w fun e w' => e = .returned (.bool true) ∧ w = w' := by
  by_cases h : (FloatKind.f64.format.order x x == some .eq) = true
  · go_enter Try.func14, Try.ntmps14
    go_wp2
    go_ret
    exact ⟨rfl, rfl⟩
  · have h' : (FloatKind.f64.format.order x x == some .eq) = false := by simpa using h
    have h2 : (FloatKind.f64.format.order x x != some .eq) = true := by simpa using h
    go_enter Try.func14, Try.ntmps14
    go_wp2
    go_ret
    exact ⟨rfl, rfl⟩

theorem el23 : ElemOk Try.prog 23 25 (.float .f64 0) 1 8 := ⟨Try.underlying23, by kernel_rfl, rfl, by decide⟩

/-- Place j of the list that the law makes. -/
def lOf (xs : List Nat) (bs : List Bool) (j : Nat) : Nat := if (bs[j]?.getD false) = true then nanBits else xs[j]?.getD 0
def lTo (xs : List Nat) (bs : List Bool) (k : Nat) : List Nat := (List.range k).map (lOf xs bs)
def fl (x : Nat) : Value := .float .f64 x
theorem lTo_succ (xs : List Nat) (bs : List Bool) (k : Nat) : (lTo xs bs (k + 1)).map fl = (lTo xs bs k).map fl ++ [fl (lOf xs bs k)] := by
  simp [lTo, List.range_succ]

theorem best_nil (w : World) : Calls Try.prog 13 #[.slice none 0 0] w fun e w' => e = .returned (.int .i64 (-1)) ∧ w = w' :=
  best_any none 0 0 [] 0 w rfl (by omega) Rd.empty
theorem two_eq : bestTo [nanBits, 4602678819172646912] 2 = 1 := by decide +kernel
theorem best_two (w w1 : World) (hw : w1 = w.alloc (.cells #[.float .f64 nanBits, .float .f64 4602678819172646912] 25)) : Calls Try.prog 13 #[.slice (some ⟨w.heap.size, 0, none⟩) 2 2] w1 fun e w' => e = .returned (.int .i64 1) ∧ w1 = w' := by
  have h := best_any (some ⟨w.heap.size, 0, none⟩) 2 2 [nanBits, 4602678819172646912] (w.heap.size + 1) w1 rfl (by omega) (fun _ => by
    refine ⟨_, _, rfl, by omega, fun j hj => ?_⟩
    subst hw
    rw [cell_of_row _ w.heap.size (0 + j) _ 25 (0, 0) (heap_alloc_new w _)]
    match j, hj with
    | 0, _ => rfl
    | 1, _ => rfl)
  rwa [two_eq] at h

theorem fl_of_own {w : World} {B : Nat} {A : Option Addr} {n c : Nat} {l : List Nat} (hl : l.length = n) (h : Own w B 25 1 A n c (l.map fl)) : Fl w w.heap.size A l := by
  unfold Fl
  rw [hl]
  have := h.rd
  rw [Nat.mul_one] at this
  exact this.congr fun j hj => by simp [hl, hj, fl]

set_option maxHeartbeats 1000000 in
theorem law_any (A0 A1 : Option Addr) (c0 c1 n m : Nat) (xs : List Nat) (bs : List Bool) (w : World) (hn : n = xs.length) (hm : m = bs.length) (hs : n ≤ 17592186044416) (hr : Fl w w.heap.size A0 xs)
    (hb : Rd w w.heap.size A1 bs.length (fun j => .bool (bs[j]?.getD false))) :
    Calls Try.prog 4 #[.slice A0 n c0, .slice A1 m c1] w fun e w' => e = .returned (.bool true) ∧ Below w.heap.size w w' := by
  have HN := Lib.hid hn
  have HM := Lib.hid hm
  unfold Fl at hr
  rw [← hn] at hr
  rw [← hm] at hb
  clear hn hm
  have HR := Lib.hid hr
  have HB := Lib.hid hb
  clear hr hb
  go_enter Try.func4, Try.ntmps4
  go_wp2
  go_loopw [5, 6] (fun v i wr => ∃ (k : Nat) (A : Option Addr) (c : Nat), k ≤ n ∧ i = .int .i64 k ∧ v = .slice A k c ∧ Own wr w.heap.size 25 1 A k c ((lTo xs bs k).map fl) ∧ Below w.heap.size w wr) (fun _ i _ => n - (intOf i).toNat)
  case atStart => exact ⟨0, none, 0, Nat.zero_le _, rfl, rfl, Own.nil _ _ _ _, Below.refl _ _⟩
  case round =>
    obtain ⟨k, A, c, hk, rfl, rfl, hown, hbel⟩ := hrel
    by_cases hlt : k < n
    · obtain ⟨b, off, rfl, hbb, hck⟩ := (HR.out.below hbel).get hlt
      by_cases hkm : k < m
      · obtain ⟨b1, off1, rfl, _, hc1⟩ := (HB.out.below hbel).get hkm
        cases hv : bs[k]?.getD false
        · rw [hv] at hc1
          have hL : lOf xs bs k = xs[k]?.getD 0 := by simp [lOf, hv]
          have HL := Lib.hid hL
          clear hL hv
          go_wp2_with (first | (go_at_call 12; refine (nan_any _).mono ?_; rintro e w' ⟨rfl, rfl⟩) | (at_builtin; refine wpList_app1 el23 _ #[_] rfl rfl _ _ rfl rfl hown rfl (by intro u hu; simp at hu; subst hu; rfl) (by unfold maxLen; omega) (by omega) hbel.size (k + 1) rfl _ rfl ?_; intro A' c' w' hown' _ _ hb'))
          go_roundw
          case rel => exact ⟨k + 1, A', c', by omega, by go_num, rfl, by rw [lTo_succ, HL.out]; exact hown', hbel.trans hb'⟩
          case measure => simp [intOf]; omega
        · rw [hv] at hc1
          have hL : lOf xs bs k = nanBits := by simp [lOf, hv]
          have HL := Lib.hid hL
          clear hL hv
          go_wp2_with (first | (go_at_call 12; refine (nan_any _).mono ?_; rintro e w' ⟨rfl, rfl⟩) | (at_builtin; refine wpList_app1 el23 _ #[_] rfl rfl _ _ rfl rfl hown rfl (by intro u hu; simp at hu; subst hu; rfl) (by unfold maxLen; omega) (by omega) hbel.size (k + 1) rfl _ rfl ?_; intro A' c' w' hown' _ _ hb'))
          go_roundw
          case rel => exact ⟨k + 1, A', c', by omega, by go_num, rfl, by rw [lTo_succ, HL.out]; exact hown', hbel.trans hb'⟩
          case measure => simp [intOf]; omega
      · have hL : lOf xs bs k = xs[k]?.getD 0 := by
          have : bs[k]? = none := by rw [HM.out] at hkm; exact List.getElem?_eq_none (by omega)
          simp [lOf, this]
        have HL := Lib.hid hL
        clear hL
        go_wp2_with (first | (go_at_call 12; refine (nan_any _).mono ?_; rintro e w' ⟨rfl, rfl⟩) | (at_builtin; refine wpList_app1 el23 _ #[_] rfl rfl _ _ rfl rfl hown rfl (by intro u hu; simp at hu; subst hu; rfl) (by unfold maxLen; omega) (by omega) hbel.size (k + 1) rfl _ rfl ?_; intro A' c' w' hown' _ _ hb'))
        go_roundw
        case rel => exact ⟨k + 1, A', c', by omega, by go_num, rfl, by rw [lTo_succ, HL.out]; exact hown', hbel.trans hb'⟩
        case measure => simp [intOf]; omega
    · obtain rfl : k = n := by omega
      clear hlt hk
      have hlen : (lTo xs bs k).length = k := by simp [lTo]
      have Hlen := Lib.hid hlen
      clear hlen
      go_wp2_with (at_builtin; refine wpList_app el23 _ rfl _ _ rfl rfl (Own.nil _ w.heap.size _ _) rfl hown.rd ?_ (by unfold maxLen; omega) (by omega) hbel.size k (by omega) ((lTo xs bs k).map fl) ?_ ?_)
      · intro j hj
        have : j < (lTo xs bs k).length := by rw [Hlen.out]; omega
        simp [this, fl, Value.oneCell']
      · apply List.ext_getElem
        · simp [Hlen.out]
        · intro j hj hj2
          simp at hj2
          simp [hj2]
      · intro A2 c2 w2 hown2 hg2 hd2 hb2
        have hf2 := fl_of_own Hlen.out hown2
        have hf1 := fl_of_own Hlen.out (hown.kept hg2 (by intro k' _; simp [blockOf]))
        have HF2 := Lib.hid hf2
        have HF1 := Lib.hid hf1
        have hbel2 := hbel.trans hb2
        clear hf1 hf2 hown hown2 hg2 hd2 hbel hb2
        go_wp2_with (go_at_call 13; refine (best_any _ _ _ (lTo xs bs k) w2.heap.size _ Hlen.out (by omega) HF2.out).mono ?_; rintro e w' ⟨rfl, rfl⟩)
        go_loopw [9] (fun i wx => ∃ j m' : Nat, j ≤ k ∧ i = .int .i64 j ∧ wx = w2.drewN m') (fun i _ => k - (intOf i).toNat)
        case atStart => exact ⟨0, 0, Nat.zero_le _, rfl, rfl⟩
        case round =>
          obtain ⟨j, m', hj, rfl, rfl⟩ := hrel
          by_cases hlt : j < k
          · have e2 := HF2.out
            unfold Fl at e2
            rw [Hlen.out] at e2
            have e1 := HF1.out
            unfold Fl at e1
            rw [Hlen.out] at e1
            obtain ⟨b2, o2, rfl, _, q2⟩ := e2.get hlt
            obtain ⟨b1, o1, rfl, _, q1⟩ := e1.get hlt
            clear e1 e2
            go_wp2_with fail
            go_quiet ((go_at_call 14; exact quiet_l2 (same_refl _)))
            go_wp2_with fail
            go_roundw
            case rel => exact ⟨j + 1, _, by omega, by go_num, rfl⟩
            case measure => simp [intOf]; omega
          · obtain rfl : j = k := by omega
            clear hlt hj
            go_wp2_with fail
            refine (refBest_any _ _ _ (lTo xs bs j) w2.heap.size _ Hlen.out (by omega) (Rd.drewN HF1.out m')).mono ?_
            rintro e w' ⟨rfl, m2, rfl⟩
            go_wp2_with fail
            refine (best_nil _).mono ?_
            rintro e w' ⟨rfl, rfl⟩
            go_wp2_with fail
            refine (nan_any _).mono ?_
            rintro e w' ⟨rfl, rfl⟩
            go_wp2_with fail
            refine (best_two _ _ rfl).mono ?_
            rintro e w' ⟨rfl, rfl⟩
            go_wp2_with fail
            go_ret
            exact ⟨rfl, (below_drewN hbel2 _).alloc (by have := hbel2.size; simpa using this) _⟩

theorem c25 : Try.prog.cellsOf 25 = 1 := by kernel_rfl
theorem c4 : Try.prog.cellsOf 4 = 1 := by kernel_rfl
theorem b25 : Try.prog.bytesOf 25 = 8 := by kernel_rfl

set_option maxRecDepth 100000 in
open Go.ChangeShapes Go.WideShapes in
theorem bloomBest_calls {H : Type} {enc : TypeId × Value → H} (W : World) (base : Nat) (v0 v1 : Value) (d0 d1 : DataW H) (p0 p1 : List MemPlace)
    (o0 : Value.okWide Try.prog W .any base 23 v0) (h0 : DataW.Trod enc Try.prog W 0 (fun _ => true) true 23 v0 d0 p0)
    (o1 : Value.okWide Try.prog W .any base 24 v1) (h1 : DataW.Trod enc Try.prog W 0 (fun _ => true) true 24 v1 d1 p1)
    (hsz : (DataW.weightsEach Try.prog [23, 24] [d0, d1]).all (· ≤ reachBytes) = true) :
    Calls Try.prog 4 #[v0, v1] W fun e W' => e = .returned (.bool true) ∧ Below W.heap.size W W' := by
  obtain ⟨A0, c0, xs, rfl, _, _, r0, q0, _⟩ := arg_floats Try.underlying23 Try.underlying25 c25 o0 h0
  obtain ⟨A1, c1, bs, rfl, _, _, r1, _, _⟩ := arg_bools Try.underlying24 Try.underlying4 c4 o1 h1
  have hl := q0.reach hsz (j := 0) rfl rfl Try.underlying23 b25
  exact law_any A0 A1 c0 c1 _ _ xs bs W rfl rfl (by omega) r0 r1
end Go.Proofs.Ytlghgfnkckaebaa
