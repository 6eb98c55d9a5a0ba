/- BloomLeast: what Plan answers has such a rate, and none of 64 bits less. -/
import Derived.Test.YtlghgfnkckaebaaPlan
namespace Go.Proofs.Ytlghgfnkckaebaa
open Go.RowKit

theorem order_some {a b : Ieee.Datum} (ha : ∀ s f, a ≠ .nan s f) (hb : ∀ s f, b ≠ .nan s f) : ∃ o, a.order b = some o := by
  cases a with
  | nan s f => exact absurd rfl (ha s f)
  | infinity s => cases b with
    | nan s f => exact absurd rfl (hb s f)
    | infinity t => exact ⟨_, rfl⟩
    | number => exact ⟨_, rfl⟩
  | number => cases b with
    | nan s f => exact absurd rfl (hb s f)
    | infinity t => exact ⟨_, rfl⟩
    | number => exact ⟨_, rfl⟩

/-- A rate that is not no greater is greater. -/
theorem gt_of_no {added : Int} {rate : Nat} {b h : Int} (h1 : 1 ≤ b) (h2 : b ≤ 1048576) (hr : inB rate = true) (hn : hitB added rate b h = false) :
    (FloatKind.f64.format.order (rateF b h added) rate == some .gt) = true := by
  unfold inB at hr
  obtain ⟨r1, _⟩ := Bool.and_eq_true_iff.1 hr
  unfold hitB at hn
  obtain ⟨n1, n2⟩ := Bool.or_eq_false_iff.1 hn
  have hl := rateF_le (bits := b) (hashes := h) (added := added) h1 h2
  have hone : Fp.one = 4607182418800017408 := rfl
  have hread := Fp.read_pos (r := rateF b h added) (by omega)
  obtain ⟨o, ho⟩ := order_some (a := Ieee.double.read (rateF b h added)) (b := Ieee.double.read rate) (by rw [hread]; intro s f he; cases he) (by
    intro s f he
    have r2 : (Ieee.double.read rate).order (Ieee.double.read 0) = some .gt := by simpa [Ieee.Format.order, FloatKind.format] using r1
    rw [he] at r2
    cases r2)
  have ho2 : FloatKind.f64.format.order (rateF b h added) rate = some o := ho
  rw [ho2] at n1 n2 ⊢
  cases o
  · cases n1
  · cases n2
  · rfl

set_option maxHeartbeats 1000000 in
theorem least_no (added : Int) (rate : Nat) (w : World) (h : (added < 0 ∨ 4294967296 < added)) :
    Calls Try.prog 7 #[.int .i64 added, .float .f64 rate] w fun e w' => e = .returned (.bool true) ∧ w = w' := by
  rcases (show added < 0 ∨ (0 ≤ added ∧ 4294967296 < added) by omega) with h1 | ⟨h1, h2⟩
  all_goals
    go_enter Try.func7, Try.ntmps7
    go_wp2_with fail
    refine (plan_arg _ _ _ h).mono ?_
    rintro e w' ⟨rfl, rfl⟩
    go_wp2_with fail
    go_ret
    exact ⟨rfl, rfl⟩

set_option maxHeartbeats 1000000 in
theorem least_rate (added : Int) (rate : Nat) (w : World) (h0 : 0 ≤ added) (h1 : added ≤ 4294967296) (hr : inB rate = false) :
    Calls Try.prog 7 #[.int .i64 added, .float .f64 rate] w fun e w' => e = .returned (.bool true) ∧ w = w' := by
  have HR := Lib.hid hr
  unfold inB at hr
  cases h3 : (FloatKind.f64.format.order rate 0 == some .gt)
  · clear hr
    cases h4 : (FloatKind.f64.format.order rate 4607182418800017408 == some .lt)
    all_goals
      go_enter Try.func7, Try.ntmps7
      go_wp2_with fail
      refine (plan_rate _ _ _ h0 h1 HR.out).mono ?_
      rintro e w' ⟨rfl, rfl⟩
      go_wp2_with fail
      go_ret
      exact ⟨rfl, rfl⟩
  · have h4 : (FloatKind.f64.format.order rate 4607182418800017408 == some .lt) = false := by rw [h3] at hr; simpa using hr
    clear hr
    go_enter Try.func7, Try.ntmps7
    go_wp2_with fail
    refine (plan_rate _ _ _ h0 h1 HR.out).mono ?_
    rintro e w' ⟨rfl, rfl⟩
    go_wp2_with fail
    go_ret
    exact ⟨rfl, rfl⟩

set_option maxHeartbeats 2000000 in
theorem least_ok (added : Int) (rate : Nat) (w : World) (h0 : 0 ≤ added) (h1 : added ≤ 4294967296) (hr : inB rate = true) :
    Calls Try.prog 7 #[.int .i64 added, .float .f64 rate] w fun e w' => e = .returned (.bool true) ∧ w = w' := by
  have HR := Lib.hid hr
  unfold inB at hr
  obtain ⟨r1, r2⟩ := Bool.and_eq_true_iff.1 hr
  clear hr
  go_enter Try.func7, Try.ntmps7
  go_wp2_with fail
  refine (plan_ok _ _ _ h0 h1 HR.out).mono ?_
  rintro e w' ⟨⟨b, h, r, rfl, hp⟩, rfl⟩
  rcases hp with ⟨rfl, j, j1, j2, rfl, g1, g2, hh, p1, p2⟩ | ⟨rfl, rfl, rfl, p1⟩
  · have hx := hh
    unfold hitB at hx
    have P1 := Lib.hid p1
    have P2 := Lib.hid p2
    clear hh p1 p2
    have m0 : ((64 * (j : Int)) % 64 != 0) = false := by simp
    go_wp2_with fail
    refine (rate_ok _ _ _ _ ⟨by omega, by omega, g1, g2, h0, h1⟩).mono ?_
    rintro e w' ⟨rfl, rfl⟩
    go_wp2_with fail
    go_loop [8] (fun i => ∃ k : Int, 1 ≤ k ∧ k ≤ h ∧ i = .int .i64 k) (fun i => (20 - intOf i).toNat)
    case atStart => exact ⟨1, by omega, g1, rfl⟩
    case round =>
      obtain ⟨k, k1, k2, rfl⟩ := hrel
      by_cases hk : k < h
      · have hn := P1.out k k1 hk
        unfold hitB at hn
        go_wp2_with fail
        refine (rate_ok _ _ _ _ ⟨by omega, by omega, k1, by omega, h0, h1⟩).mono ?_
        rintro e w' ⟨rfl, rfl⟩
        go_wp2_with fail
        go_round
        case rel => exact ⟨k + 1, by omega, by omega, rfl⟩
        case measure => simp [intOf]; omega
      · obtain rfl : k = h := by omega
        go_wp2_with fail
        go_loop [9] (fun i => ∃ q : Int, 1 ≤ q ∧ q ≤ 17 ∧ i = .int .i64 q) (fun i => (20 - intOf i).toNat)
        case atStart => exact ⟨1, by omega, by omega, rfl⟩
        case round =>
          obtain ⟨q, q1, q2, rfl⟩ := hrel
          by_cases hq : q ≤ 16
          · by_cases hj : 2 ≤ j
            · have hn := P2.out (j - 1) (by omega) (by omega) q q1 hq
              have e1 : (64 * ((j - 1 : Nat) : Int)) = 64 * (j : Int) - 64 := by omega
              rw [e1] at hn
              unfold hitB at hn
              clear e1
              go_wp2_with fail
              refine (rate_ok _ _ _ _ ⟨by omega, by omega, q1, hq, h0, h1⟩).mono ?_
              rintro e w' ⟨rfl, rfl⟩
              go_wp2_with fail
              go_round
              case rel => exact ⟨q + 1, by omega, by omega, rfl⟩
              case measure => simp [intOf]; omega
            · go_wp2_with fail
              go_ret
              exact ⟨rfl, rfl⟩
          · go_wp2_with fail
            go_ret
            exact ⟨rfl, rfl⟩
  · have hg := gt_of_no (by omega) (by omega) HR.out (p1 16384 (by omega) (by omega) 1 (by omega) (by omega))
    have hg2 : (FloatKind.f64.format.order (rateF 1048576 1 added) rate == some .gt) = true := hg
    clear p1 hg
    go_wp2_with fail
    refine (rate_ok _ _ _ _ ⟨by omega, by omega, by omega, by omega, h0, h1⟩).mono ?_
    rintro e w' ⟨rfl, rfl⟩
    go_wp2_with fail
    go_ret
    exact ⟨rfl, rfl⟩

set_option maxRecDepth 100000 in
open Go.ChangeShapes Go.WideShapes in
theorem bloomLeast_calls {H : Type} {enc : TypeId × Value → H} (W : World) (base : Nat) (v0 v1 : Value) (d0 d1 : DataW H) (p0 p1 : List MemPlace)
    (o0 : Value.okWide Try.prog W .any base 3 v0) (h0 : DataW.Trod enc Try.prog W 0 (fun _ => true) true 3 v0 d0 p0)
    (o1 : Value.okWide Try.prog W .any base 25 v1) (h1 : DataW.Trod enc Try.prog W 0 (fun _ => true) true 25 v1 d1 p1)
    (_hsz : (DataW.weightsEach Try.prog [3, 25] [d0, d1]).all (· ≤ reachBytes) = true) :
    Calls Try.prog 7 #[v0, v1] W fun e W' => e = .returned (.bool true) ∧ Below W.heap.size W W' := by
  obtain ⟨x, rfl, _, _, _⟩ := open_int Try.underlying3 o0 h0
  obtain ⟨y, rfl, _, _, _⟩ := open_float Try.underlying25 o1 h1
  rcases plan_cases x y with h | ⟨h0, h1, hr⟩ | ⟨h0, h1, hr⟩
  · exact (least_no x y W h).mono fun _ _ ⟨he, hw⟩ => ⟨he, by rw [← hw]; exact Below.refl _ _⟩
  · exact (least_rate x y W h0 h1 hr).mono fun _ _ ⟨he, hw⟩ => ⟨he, by rw [← hw]; exact Below.refl _ _⟩
  · exact (least_ok x y W h0 h1 hr).mono fun _ _ ⟨he, hw⟩ => ⟨he, by rw [← hw]; exact Below.refl _ _⟩
end Go.Proofs.Ytlghgfnkckaebaa
