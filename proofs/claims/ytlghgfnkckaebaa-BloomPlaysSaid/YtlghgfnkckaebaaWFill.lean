/- Fill and Alarm. -/
import Derived.Test.YtlghgfnkckaebaaWOnes
import Derived.Test.YtlghgfnkckaebaaWFlo
namespace Go.Proofs.Ytlghgfnkckaebaa
open Go.RowKit
set_option linter.unusedSimpArgs false
set_option linter.unusedVariables false

theorem quiet_dA {P : Program} {f : FuncId} {args : Array Value} {w : World} {n : Nat} {v : Value} (h : Calls P f args (w.drewN n) fun e w' => e = .returned v ∧ ∃ m, w' = (w.drewN n).drewN m) :
    Calls P f args (w.drewN n) fun e w'' => e = .returned v ∧ ∃ m, w'' = w.drewN m :=
  h.mono fun _ _ ⟨he, m, hm⟩ => ⟨he, n + m, by rw [hm, World.drewN_drewN]⟩
def fillF (o N : Nat) : Nat := (Ieee.double.div (floatOfInt .f64 (o : Int)) (floatOfInt .f64 (N : Int))).getD 0
theorem fl_nat (n : Nat) : floatOfInt .f64 (n : Int) = Ieee.double.nearest false n 0 := by
  unfold floatOfInt FloatKind.nearest FloatKind.encode FloatKind.format Ieee.Format.write
  have : decide ((n : Int) < 0) = false := by simp
  simp only [this, Int.natAbs_natCast]
theorem fillF_eq {o N : Nat} (h : o ≤ N) (h1 : 1 ≤ N) (h2 : N ≤ 1048576) : Ieee.double.div (floatOfInt .f64 (o : Int)) (floatOfInt .f64 (N : Int)) = some (fillF o N) ∧ fillF o N ≤ Fp.one ∧ (0 < o → Fp.pw2 21 ≤ fillF o N) := by
  have a1 := (Fp.of_nat (n := N) h1 (by omega)).1
  have a2 := Fp.of_nat_mega h2
  have a3 := Fp.of_nat_mono h h2
  unfold fillF
  rw [fl_nat, fl_nat]
  rcases Nat.eq_zero_or_pos o with h0 | h0
  · subst h0
    have e0 : Ieee.double.nearest false 0 0 = 0 := by decide +kernel
    rw [e0, Fp.div_zero a1 a2]
    exact ⟨rfl, Nat.zero_le _, fun q => absurd q (by omega)⟩
  · obtain ⟨t, ht, h3, h4⟩ := Fp.div_low (Fp.of_nat (n := o) h0 (by omega)).1 a3 a2
    rw [ht]
    exact ⟨rfl, h3, fun _ => h4⟩
theorem run_fill (w : World) {o N : Nat} (h : o ≤ N) (h1 : 1 ≤ N) (h2 : N ≤ 1048576) : (binOp .quo 25 (.float .f64 (floatOfInt .f64 (o : Int))) (.float .f64 (floatOfInt .f64 (N : Int)))).run Try.prog w = .ok (.float .f64 (fillF o N)) w :=
  run_float_arith w .quo 25 .f64 (floatOfInt .f64 (o : Int)) (floatOfInt .f64 (N : Int)) (fillF o N) (fillF_eq h h1 h2).1
/-- A power from below, and not above its base. -/
theorem powL_low (f : Nat) : ∀ (z b n a c : Nat), z ≤ Fp.one → b ≤ Fp.one → Fp.pw2 a ≤ z → Fp.pw2 c ≤ b → a + c * n ≤ 1022 → Fp.pw2 (a + c * n) ≤ powL f z b n := by
  induction f with
  | zero => exact fun z b n a c hz hb ha hc hn => Nat.le_trans (Fp.pw2_le (by omega)) ha
  | succ f ih =>
    intro z b n a c hz hb ha hc hn
    unfold powL
    split
    · exact Nat.le_trans (Fp.pw2_le (by omega)) ha
    · rename_i h0
      have hz' : (if n % 2 = 1 then mulF z b else z) ≤ Fp.one ∧ Fp.pw2 (a + c * (n % 2)) ≤ (if n % 2 = 1 then mulF z b else z) := by
        split
        · rename_i h1
          have hcn : c ≤ c * n := Nat.le_mul_of_pos_right _ (by omega)
          obtain ⟨t, ht, hl⟩ := Fp.mul_low hz hb ha hc (by omega)
          have e : mulF z b = t := by unfold mulF; rw [ht]; rfl
          rw [h1, Nat.mul_one, e]
          exact ⟨by rw [← e]; exact Nat.le_trans (mulF_eq hz hb).2.1 hz, hl⟩
        · rename_i h1
          exact ⟨hz, by rw [show n % 2 = 0 by omega, Nat.mul_zero]; exact ha⟩
      by_cases h2 : n / 2 = 0
      · rw [h2, powL_zero]
        have : n % 2 = n := by omega
        have hz2 := hz'.2
        rw [this] at hz2 ⊢
        exact hz2
      · have e : c * n = c * (n % 2) + (c + c) * (n / 2) := by
          have hn2 : n = n % 2 + 2 * (n / 2) := by omega
          conv => lhs; rw [hn2]
          rw [Nat.mul_add, Nat.add_mul, ← Nat.mul_assoc, Nat.mul_comm c 2, Nat.two_mul, Nat.add_mul]
        have hcc : c + c ≤ (c + c) * (n / 2) := Nat.le_mul_of_pos_right _ (by omega)
        obtain ⟨t, ht, hl⟩ := Fp.mul_low hb hb hc hc (by omega)
        have e2 : mulF b b = t := by unfold mulF; rw [ht]; rfl
        have := ih _ (mulF b b) (n / 2) _ (c + c) hz'.1 (Nat.le_trans (mulF_eq hb hb).2.1 hb) hz'.2 (by rw [e2]; exact hl) (by omega)
        rw [e, ← Nat.add_assoc]
        exact this
theorem powL_base : ∀ (f z b n : Nat), z ≤ Fp.one → b ≤ Fp.one → n ≠ 0 → n < 2 ^ f → powL f z b n ≤ b
  | 0, z, b, n, hz, hb, h0, hn => by simp at hn; omega
  | f + 1, z, b, n, hz, hb, h0, hn => by
    unfold powL
    rw [if_neg h0]
    by_cases h2 : n / 2 = 0
    · rw [h2, powL_zero, if_pos (by omega)]
      exact (mulF_eq hz hb).2.2
    · have hbb := (mulF_eq hb hb).2.1
      have hz' : (if n % 2 = 1 then mulF z b else z) ≤ Fp.one := by
        split
        · exact Nat.le_trans (mulF_eq hz hb).2.1 hz
        · exact hz
      exact Nat.le_trans (powL_base f _ _ _ hz' (Nat.le_trans hbb hb) h2 (by rw [Nat.pow_succ] at hn; omega)) hbb
/-- Fill's and Alarm's numbers. -/
def alarmF (o N h : Nat) : Nat := powF (fillF o N) h
theorem alarm_facts {o N h : Nat} (ho : o ≤ N) (h1 : 1 ≤ N) (h2 : N ≤ 1048576) (hh : 1 ≤ h) (hh2 : h ≤ 16) : alarmF o N h ≤ Fp.one ∧ alarmF o N h ≤ fillF o N ∧ (0 < o → 0 < alarmF o N h) := by
  obtain ⟨e, f1, f2⟩ := fillF_eq ho h1 h2
  refine ⟨powF_le _ _ f1, powL_base _ _ _ _ (Nat.le_refl _) f1 (by omega) (Nat.lt_of_le_of_lt hh2 (by decide)), fun hp => ?_⟩
  have := powL_low 64 Fp.one (fillF o N) h 0 21 (Nat.le_refl _) f1 (by rw [Fp.pw2_one]; exact Nat.le_refl _) (f2 hp) (by omega)
  have h3 : 0 < Fp.pw2 (0 + 21 * h) := Nat.mul_pos (by omega) (by decide)
  exact Nat.lt_of_lt_of_le h3 this
set_option maxRecDepth 20000 in
set_option maxHeartbeats 1000000 in
theorem fill_any {w : World} {B g h c : Nat} {A : Option Addr} {l : List Nat} (f : Flt w B g A c l h) : Calls Try.prog 32 #[.pointer (some ⟨g, 0, none⟩)] w fun e w' => e = .returned (.float .f64 (fillF (popL l) (64 * l.length))) ∧ ∃ m, w' = w.drewN m := by
  have hth := Lib.hid (there_any f)
  have hon := Lib.hid (fun m => ones_any (f.below (below_drewN (Below.refl w.heap.size w) m)))
  have c0 := f.c0
  have nm := f.nm
  have n1 := f.n1
  have hp := popL_le l
  obtain ⟨a, hA, _, hal, _, hcel⟩ := f.at
  subst hA
  clear f hcel
  obtain ⟨o, ho⟩ : ∃ o, popL l = o := ⟨_, rfl⟩
  obtain ⟨n, hn⟩ : ∃ n, l.length = n := ⟨_, rfl⟩
  rw [ho] at hon hp ⊢
  rw [hn] at c0 nm n1 hp ⊢
  obtain ⟨N, hN⟩ : ∃ N, 64 * n = N := ⟨_, rfl⟩
  rw [hN] at hp ⊢
  have e64 : (n : Int) * 64 = (N : Int) := by omega
  have hN1 : 1 ≤ N := by omega
  have hN2 : N ≤ 1048576 := by omega
  have hr := fun W => run_fill W hp hN1 hN2
  clear ho hn hN
  go_enter Try.func32, Try.ntmps32
  go_wp2_with (go_at_call 48; refine hth.out.mono ?_; rintro e w2 ⟨rfl, rfl⟩)
  go_quiet ((go_at_call 28; exact quiet_e (hon.out _)))
  go_wp2_with fail
  go_ret
  exact ⟨rfl, _, rfl⟩
set_option maxRecDepth 20000 in
set_option maxHeartbeats 1000000 in
theorem alarm_any {w : World} {B g h c : Nat} {A : Option Addr} {l : List Nat} (f : Flt w B g A c l h) : Calls Try.prog 31 #[.pointer (some ⟨g, 0, none⟩)] w fun e w' => e = .returned (.float .f64 (alarmF (popL l) (64 * l.length) h)) ∧ ∃ m, w' = w.drewN m := by
  have hth := Lib.hid (there_any f)
  have hfi := Lib.hid (fun m => fill_any (f.below (below_drewN (Below.refl w.heap.size w) m)))
  have c1 := f.c1
  have hq := Lib.hid (fun W => pow_any (fillF (popL l) (64 * l.length)) (h : Int) W (fillF_eq (popL_le l) (by have := f.n1; omega) (by have := f.nm; omega)).2.1 (by omega) (by have := f.h16; omega))
  clear f
  unfold alarmF
  generalize fillF (popL l) (64 * l.length) = x at hfi hq ⊢
  go_enter Try.func31, Try.ntmps31
  go_wp2_with (go_at_call 48; refine hth.out.mono ?_; rintro e w2 ⟨rfl, rfl⟩)
  go_quiet (first
    | (go_at_call 32; exact quiet_dA (hfi.out _))
    | (go_at_call 39; exact quiet_e (hq.out _)))
  go_wp2_with fail
  go_ret
  exact ⟨rfl, _, rfl⟩
end Go.Proofs.Ytlghgfnkckaebaa
