/- Plan of package bloom and of its reference: the least filter whose rate is no greater; the laws BloomPlans and BloomLeast. -/
import Derived.Test.YtlghgfnkckaebaaRate
namespace Go.Proofs.Ytlghgfnkckaebaa
open Go.RowKit

/-- Is the rate no greater? -/
def hitB (added : Int) (rate : Nat) (b h : Int) : Bool :=
  FloatKind.f64.format.order (rateF b h added) rate == some .lt || FloatKind.f64.format.order (rateF b h added) rate == some .eq

/-- What a plan is. -/
def PlanIs (hit : Int → Int → Bool) (b h e : Int) : Prop :=
  (e = 0 ∧ ∃ j : Nat, 1 ≤ j ∧ j ≤ 16384 ∧ b = 64 * j ∧ 1 ≤ h ∧ h ≤ 16 ∧ hit b h = true ∧ (∀ h' : Int, 1 ≤ h' → h' < h → hit b h' = false) ∧
    ∀ j' : Nat, 1 ≤ j' → j' < j → ∀ h' : Int, 1 ≤ h' → h' ≤ 16 → hit (64 * j') h' = false) ∨
  (e = 70 ∧ b = 0 ∧ h = 0 ∧ ∀ j' : Nat, 1 ≤ j' → j' < 16385 → ∀ h' : Int, 1 ≤ h' → h' ≤ 16 → hit (64 * j') h' = false)

theorem PlanIs.unique {hit : Int → Int → Bool} {b h e b' h' e' : Int} (p : PlanIs hit b h e) (q : PlanIs hit b' h' e') : b = b' ∧ h = h' ∧ e = e' := by
  rcases p with ⟨rfl, j, j1, j2, rfl, h1, h2, hh, p1, p2⟩ | ⟨rfl, rfl, rfl, p1⟩ <;> rcases q with ⟨rfl, k, k1, k2, rfl, g1, g2, gg, q1, q2⟩ | ⟨rfl, rfl, rfl, q1⟩
  · have hjk : j = k := by
      rcases Nat.lt_trichotomy j k with hl | hl | hl
      · rw [q2 j j1 hl h h1 h2] at hh; cases hh
      · exact hl
      · rw [p2 k k1 hl h' g1 g2] at gg; cases gg
    subst hjk
    refine ⟨rfl, ?_, rfl⟩
    rcases Int.lt_trichotomy h h' with hl | hl | hl
    · rw [q1 h h1 hl] at hh; cases hh
    · exact hl
    · rw [p1 h' g1 hl] at gg; cases gg
  · rw [q1 j j1 (by omega) h h1 h2] at hh; cases hh
  · rw [p1 k k1 (by omega) h' g1 g2] at gg; cases gg
  · exact ⟨rfl, rfl, rfl⟩

def NoneTo (hit : Int → Int → Bool) (j : Nat) : Prop := ∀ j' : Nat, 1 ≤ j' → j' < j → ∀ h' : Int, 1 ≤ h' → h' ≤ 16 → hit (64 * j') h' = false
def NoneIn (hit : Int → Int → Bool) (b h : Int) : Prop := ∀ h' : Int, 1 ≤ h' → h' < h → hit b h' = false
theorem NoneIn.succ {hit : Int → Int → Bool} {b h : Int} (p : NoneIn hit b h) (q : hit b h = false) : NoneIn hit b (h + 1) := fun h' h1 h2 => by
  by_cases e : h' = h
  · rw [e]; exact q
  · exact p h' h1 (by omega)
theorem NoneTo.succ {hit : Int → Int → Bool} {j : Nat} (p : NoneTo hit j) (q : NoneIn hit (64 * j) 17) : NoneTo hit (j + 1) := fun j' h1 h2 => by
  by_cases e : j' = j
  · rw [e]; exact fun h' h1 h2 => q h' h1 (by omega)
  · exact p j' h1 (by omega)

/-- Above nought and below one? -/
def inB (rate : Nat) : Bool := FloatKind.f64.format.order rate 0 == some .gt && FloatKind.f64.format.order rate 4607182418800017408 == some .lt

set_option maxHeartbeats 1000000 in
theorem plan_arg (added : Int) (rate : Nat) (w : World) (h : added < 0 ∨ 4294967296 < added) :
    Calls Try.prog 18 #[.int .i64 added, .float .f64 rate] w fun e w' => e = .returned (.tuple #[.int .i64 0, .int .i64 0, .int .i64 2]) ∧ w = w' := by
  go_enter Try.func18, Try.ntmps18
  go_wp2_with fail
  refine (may_no _ _ h).mono ?_
  rintro e w' ⟨rfl, rfl⟩
  go_wp2_with fail
  go_ret3
  exact ⟨rfl, rfl⟩

set_option maxHeartbeats 1000000 in
theorem plan_rate (added : Int) (rate : Nat) (w : World) (h0 : 0 ≤ added) (h1 : added ≤ 4294967296) (hr : inB rate = false) :
    Calls Try.prog 18 #[.int .i64 added, .float .f64 rate] w fun e w' => e = .returned (.tuple #[.int .i64 0, .int .i64 0, .int .i64 71]) ∧ w = w' := by
  unfold inB at hr
  rcases Bool.and_eq_false_iff.1 hr with h2 | h2
  · clear hr
    go_enter Try.func18, Try.ntmps18
    go_wp2_with fail
    refine (may_yes _ _ h0 h1).mono ?_
    rintro e w' ⟨rfl, rfl⟩
    go_wp2_with fail
    go_ret3
    exact ⟨rfl, rfl⟩
  · clear hr
    cases h3 : (FloatKind.f64.format.order rate 0 == some .gt)
    all_goals
      go_enter Try.func18, Try.ntmps18
      go_wp2_with fail
      refine (may_yes _ _ h0 h1).mono ?_
      rintro e w' ⟨rfl, rfl⟩
      go_wp2_with fail
      go_ret3
      exact ⟨rfl, rfl⟩

set_option maxHeartbeats 1000000 in
theorem plan_ok (added : Int) (rate : Nat) (w : World) (h0 : 0 ≤ added) (h1 : added ≤ 4294967296) (hr : inB rate = true) :
    Calls Try.prog 18 #[.int .i64 added, .float .f64 rate] w fun e w' => (∃ b h r : Int, e = .returned (.tuple #[.int .i64 b, .int .i64 h, .int .i64 r]) ∧ PlanIs (hitB added rate) b h r) ∧ w = w' := by
  unfold inB at hr
  obtain ⟨r1, r2⟩ := Bool.and_eq_true_iff.1 hr
  clear hr
  go_enter Try.func18, Try.ntmps18
  go_wp2_with fail
  refine (may_yes _ _ h0 h1).mono ?_
  rintro e w' ⟨rfl, rfl⟩
  go_wp2_with fail
  go_loop [7] (fun i => ∃ j : Nat, 1 ≤ j ∧ j ≤ 16385 ∧ i = .int .i64 (64 * j) ∧ NoneTo (hitB added rate) j) (fun i => (2000000 - intOf i).toNat)
  case atStart => exact ⟨1, by omega, by omega, rfl, fun j' h1 h2 => absurd h1 (by omega)⟩
  case round =>
    obtain ⟨j, j1, j2, rfl, hno⟩ := hrel
    by_cases hj : j ≤ 16384
    · go_wp2_with fail
      go_loop [8] (fun i => ∃ h : Int, 1 ≤ h ∧ h ≤ 17 ∧ i = .int .i64 h ∧ NoneIn (hitB added rate) (64 * j) h) (fun i => (20 - intOf i).toNat)
      case atStart => exact ⟨1, by omega, by omega, rfl, fun j' h1 h2 => absurd h1 (by omega)⟩
      case round =>
        obtain ⟨h, g1, g2, rfl, hin⟩ := hrel
        by_cases hh : h ≤ 16
        · cases hx : hitB added rate (64 * j) h
          · have hx2 := hx
            unfold hitB at hx2
            have HX := Lib.hid hx
            clear hx
            go_wp2_with fail
            refine (rate_ok _ _ _ _ ⟨by omega, by omega, g1, hh, h0, h1⟩).mono ?_
            rintro e w' ⟨rfl, rfl⟩
            go_wp2_with fail
            go_round
            case rel => exact ⟨h + 1, by omega, by omega, rfl, hin.succ HX.out⟩
            case measure => simp [intOf]; omega
          · have hx2 := hx
            unfold hitB at hx2
            have HX := Lib.hid hx
            clear hx
            go_wp2_with fail
            refine (rate_ok _ _ _ _ ⟨by omega, by omega, g1, hh, h0, h1⟩).mono ?_
            rintro e w' ⟨rfl, rfl⟩
            go_wp2_with fail
            go_ret3
            exact ⟨⟨_, _, _, rfl, .inl ⟨rfl, j, j1, hj, rfl, g1, hh, HX.out, hin, hno⟩⟩, rfl⟩
        · obtain rfl : h = 17 := by omega
          go_wp2_with fail
          go_round
          case rel => exact ⟨j + 1, by omega, by omega, by go_num, hno.succ hin⟩
          case measure => simp [intOf]; omega
    · obtain rfl : j = 16385 := by omega
      go_wp2_with fail
      go_ret3
      exact ⟨⟨_, _, _, rfl, .inr ⟨rfl, rfl, rfl, hno⟩⟩, rfl⟩

set_option maxHeartbeats 1000000 in
theorem refPlan_arg (added : Int) (rate : Nat) (w : World) (h : added < 0 ∨ 4294967296 < added) :
    Calls Try.prog 19 #[.int .i64 added, .float .f64 rate] w fun e w' => e = .returned (.tuple #[.int .i64 0, .int .i64 0, .int .i64 2]) ∧ w = w' := by
  rcases (show added < 0 ∨ (0 ≤ added ∧ 4294967296 < added) by omega) with h1 | ⟨h1, h2⟩
  · go_enter Try.func19, Try.ntmps19
    go_wp2
    go_ret3
    exact ⟨rfl, rfl⟩
  · clear h
    go_enter Try.func19, Try.ntmps19
    go_wp2
    go_ret3
    exact ⟨rfl, rfl⟩

set_option maxHeartbeats 1000000 in
theorem refPlan_rate (added : Int) (rate : Nat) (w : World) (h0 : 0 ≤ added) (h1 : added ≤ 4294967296) (hr : inB rate = false) :
    Calls Try.prog 19 #[.int .i64 added, .float .f64 rate] w fun e w' => e = .returned (.tuple #[.int .i64 0, .int .i64 0, .int .i64 71]) ∧ w = w' := by
  unfold inB at hr
  cases h3 : (FloatKind.f64.format.order rate 0 == some .gt)
  · clear hr
    cases h4 : (FloatKind.f64.format.order rate 4607182418800017408 == some .lt)
    all_goals
      go_enter Try.func19, Try.ntmps19
      go_wp2
      go_ret3
      exact ⟨rfl, rfl⟩
  · have h4 : (FloatKind.f64.format.order rate 4607182418800017408 == some .lt) = false := by rw [h3] at hr; simpa using hr
    clear hr
    go_enter Try.func19, Try.ntmps19
    go_wp2
    go_ret3
    exact ⟨rfl, rfl⟩

set_option maxHeartbeats 1000000 in
theorem refPlan_ok (added : Int) (rate : Nat) (w : World) (h0 : 0 ≤ added) (h1 : added ≤ 4294967296) (hr : inB rate = true) :
    Calls Try.prog 19 #[.int .i64 added, .float .f64 rate] w fun e w' => (∃ b h r : Int, e = .returned (.tuple #[.int .i64 b, .int .i64 h, .int .i64 r]) ∧ PlanIs (hitB added rate) b h r) ∧ w = w' := by
  unfold inB at hr
  obtain ⟨r1, r2⟩ := Bool.and_eq_true_iff.1 hr
  clear hr
  go_enter Try.func19, Try.ntmps19
  go_wp2_with fail
  go_loop [9] (fun i => ∃ j : Nat, 1 ≤ j ∧ j ≤ 16385 ∧ i = .int .i64 (64 * j) ∧ NoneTo (hitB added rate) j) (fun i => (2000000 - intOf i).toNat)
  case atStart => exact ⟨1, by omega, by omega, rfl, fun j' h1 h2 => absurd h1 (by omega)⟩
  case round =>
    obtain ⟨j, j1, j2, rfl, hno⟩ := hrel
    by_cases hj : j ≤ 16384
    · go_wp2_with fail
      go_loop [10] (fun i => ∃ h : Int, 1 ≤ h ∧ h ≤ 17 ∧ i = .int .i64 h ∧ NoneIn (hitB added rate) (64 * j) h) (fun i => (20 - intOf i).toNat)
      case atStart => exact ⟨1, by omega, by omega, rfl, fun j' h1 h2 => absurd h1 (by omega)⟩
      case round =>
        obtain ⟨h, g1, g2, rfl, hin⟩ := hrel
        by_cases hh : h ≤ 16
        · cases hx : hitB added rate (64 * j) h
          · have hx2 := hx
            unfold hitB at hx2
            have HX := Lib.hid hx
            clear hx
            go_wp2_with fail
            refine (refRate_ok _ _ _ _ ⟨by omega, by omega, g1, hh, h0, h1⟩).mono ?_
            rintro e w' ⟨rfl, rfl⟩
            go_wp2_with fail
            go_round
            case rel => exact ⟨h + 1, by omega, by omega, rfl, hin.succ HX.out⟩
            case measure => simp [intOf]; omega
          · have hx2 := hx
            unfold hitB at hx2
            have HX := Lib.hid hx
            clear hx
            go_wp2_with fail
            refine (refRate_ok _ _ _ _ ⟨by omega, by omega, g1, hh, h0, h1⟩).mono ?_
            rintro e w' ⟨rfl, rfl⟩
            go_wp2_with fail
            go_ret3
            exact ⟨⟨_, _, _, rfl, .inl ⟨rfl, j, j1, hj, rfl, g1, hh, HX.out, hin, hno⟩⟩, rfl⟩
        · obtain rfl : h = 17 := by omega
          go_wp2_with fail
          go_round
          case rel => exact ⟨j + 1, by omega, by omega, by go_num, hno.succ hin⟩
          case measure => simp [intOf]; omega
    · obtain rfl : j = 16385 := by omega
      go_wp2_with fail
      go_ret3
      exact ⟨⟨_, _, _, rfl, .inr ⟨rfl, rfl, rfl, hno⟩⟩, rfl⟩

theorem plan_cases (added : Int) (rate : Nat) : (added < 0 ∨ 4294967296 < added) ∨ (0 ≤ added ∧ added ≤ 4294967296 ∧ inB rate = false) ∨ (0 ≤ added ∧ added ≤ 4294967296 ∧ inB rate = true) := by
  cases h : inB rate
  · simp only [and_true]; omega
  · simp only [and_true]; omega

set_option maxHeartbeats 1000000 in
theorem plans_any (added : Int) (rate : Nat) (w : World) :
    Calls Try.prog 6 #[.int .i64 added, .float .f64 rate] w fun e w' => e = .returned (.bool true) ∧ w = w' := by
  rcases plan_cases added rate with h | ⟨h0, h1, hr⟩ | ⟨h0, h1, hr⟩
  · go_enter Try.func6, Try.ntmps6
    go_wp2_with fail
    refine (plan_arg _ _ _ h).mono ?_
    rintro e w' ⟨rfl, rfl⟩
    go_wp2_with fail
    refine (refPlan_arg _ _ _ h).mono ?_
    rintro e w' ⟨rfl, rfl⟩
    go_wp2_with fail
    go_ret
    exact ⟨rfl, rfl⟩
  · have HR := Lib.hid hr
    clear hr
    go_enter Try.func6, Try.ntmps6
    go_wp2_with fail
    refine (plan_rate _ _ _ h0 h1 HR.out).mono ?_
    rintro e w' ⟨rfl, rfl⟩
    go_wp2_with fail
    refine (refPlan_rate _ _ _ h0 h1 HR.out).mono ?_
    rintro e w' ⟨rfl, rfl⟩
    go_wp2_with fail
    go_ret
    exact ⟨rfl, rfl⟩
  · have HR := Lib.hid hr
    clear hr
    go_enter Try.func6, Try.ntmps6
    go_wp2_with fail
    refine (plan_ok _ _ _ h0 h1 HR.out).mono ?_
    rintro e w' ⟨⟨b, h, r, rfl, hp⟩, rfl⟩
    go_wp2_with fail
    refine (refPlan_ok _ _ _ h0 h1 HR.out).mono ?_
    rintro e w' ⟨⟨b', h', r', rfl, hp'⟩, rfl⟩
    obtain ⟨rfl, rfl, rfl⟩ := hp.unique hp'
    go_wp2_with fail
    go_ret
    exact ⟨rfl, rfl⟩

set_option maxRecDepth 100000 in
open Go.ChangeShapes Go.WideShapes in
theorem bloomPlans_calls {H : Type} {enc : TypeId × Value → H} (W : World) (base : Nat) (v0 v1 : Value) (d0 d1 : DataW H) (p0 p1 : List MemPlace)
    (o0 : Value.okWide Try.prog W .any base 3 v0) (h0 : DataW.Trod enc Try.prog W 0 (fun _ => true) true 3 v0 d0 p0)
    (o1 : Value.okWide Try.prog W .any base 25 v1) (h1 : DataW.Trod enc Try.prog W 0 (fun _ => true) true 25 v1 d1 p1)
    (_hsz : (DataW.weightsEach Try.prog [3, 25] [d0, d1]).all (· ≤ reachBytes) = true) :
    Calls Try.prog 6 #[v0, v1] W fun e W' => e = .returned (.bool true) ∧ Below W.heap.size W W' := by
  obtain ⟨x, rfl, _, _, _⟩ := open_int Try.underlying3 o0 h0
  obtain ⟨y, rfl, _, _, _⟩ := open_float Try.underlying25 o1 h1
  exact (plans_any x y W).mono fun _ _ ⟨he, hw⟩ => ⟨he, by rw [← hw]; exact Below.refl _ _⟩
end Go.Proofs.Ytlghgfnkckaebaa
