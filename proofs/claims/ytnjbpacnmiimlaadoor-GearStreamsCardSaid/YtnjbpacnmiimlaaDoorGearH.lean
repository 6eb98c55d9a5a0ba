/- behind: two lists are cut alike behind a cut that both have. -/
import Derived.Test.YtnjbpacnmiimlaaDoorGearA
namespace Go.Proofs.YtnjbpacnmiimlaaDoor
open Go.RowKit

/-- A place that is a cut of both within the last N bytes: they are cut alike from there on. -/
def Back (ls ms : List Nat) (N : Nat) : Prop := ∀ i k : Nat, (ls.drop i).sum = (ms.drop k).sum → (ls.drop i).sum ≤ N → ls.drop i = ms.drop k
/-- No cut further ahead within the last N bytes is one of both. -/
def NoMore (ls ms : List Nat) (N i j : Nat) : Prop := ∀ i' j' : Nat, i' < i → j' < j → ls.drop i' = ms.drop j' → (ls.drop i').sum ≤ N → False
theorem drop_get' {l : List Nat} {k : Nat} (h : k < l.length) : l.drop k = l[k]?.getD 0 :: l.drop (k + 1) := by
  rw [List.drop_eq_getElem_cons h, List.getElem?_eq_getElem h]
  rfl
theorem sum_drop_get {l : List Nat} {k : Nat} (h : k < l.length) : (l.drop k).sum = l[k]?.getD 0 + (l.drop (k + 1)).sum := by rw [drop_get' h, List.sum_cons]
theorem sum_drop_le (l : List Nat) (i : Nat) : (l.drop i).sum ≤ l.sum := by
  have := Gear.sum_le_of_take l i
  omega
theorem sum_drop_mono (l : List Nat) {i k : Nat} (h : i ≤ k) : (l.drop k).sum ≤ (l.drop i).sum := by
  have := sum_drop_le (l.drop i) (k - i)
  rwa [List.drop_drop, show i + (k - i) = k by omega] at this
theorem noMore_of {ls ms : List Nat} {N i j : Nat} (he : ls.drop i = ms.drop j) (hi : i ≤ ls.length) (hj : j ≤ ms.length)
    (h : i = 0 ∨ j = 0 ∨ ls[i - 1]?.getD 0 ≠ ms[j - 1]?.getD 0 ∨ N < ls[i - 1]?.getD 0 + (ls.drop i).sum) : NoMore ls ms N i j := by
  intro i' j' h1 h2 h3 h4
  have l1 := congrArg List.length he
  have l2 := congrArg List.length h3
  simp only [List.length_drop] at l1 l2
  have h5 : ls.drop (i - 1) = ms.drop (j - 1) := by
    have := congrArg (fun t => t.drop (i - 1 - i')) h3
    simp only [List.drop_drop] at this
    rwa [show i' + (i - 1 - i') = i - 1 by omega, show j' + (i - 1 - i') = j - 1 by omega] at this
  rw [drop_get' (l := ls) (k := i - 1) (by omega), drop_get' (l := ms) (k := j - 1) (by omega)] at h5
  have h6 := (List.cons.inj h5).1
  have h7 := sum_drop_mono ls (show i' ≤ i - 1 by omega)
  have h8 := sum_drop_get (l := ls) (k := i - 1) (by omega)
  rw [show i - 1 + 1 = i by omega] at h8
  rcases h with h | h | h | h <;> omega

set_option maxRecDepth 20000 in
set_option maxHeartbeats 4000000 in
theorem behind_any (ls ms : List Nat) (v0 : Value) (a m x : Int) (A0 A3 A4 : Option Addr) (n0 c0 n3 n4 c3 c4 N : Nat) (z4 z5 : Int) (w : World) (h3 : ls.length = n3) (h4 : ms.length = n4)
    (hs1 : ls.sum ≤ 4194304) (hs2 : ms.sum ≤ 4194304) (hl3 : n3 ≤ 4194304) (hl4 : n4 ≤ 4194304) (hv0 : v0 = .agg #[.int .i64 a, .int .i64 m, .int .i64 x, .slice A0 n0 c0]) (r3 : Nts w w.heap.size A3 ls) (r4 : Nts w w.heap.size A4 ms) (ha : Back ls ms N) :
    Calls Tryd.prog 17 #[v0, .slice A3 n3 c3, .slice A4 n4 c4, .int .i64 z4, .int .i64 z5, .int .i64 (N : Int)] w fun e w' => e = .returned (.bool true) ∧ Below w.heap.size w w' := by
  subst hv0
  have h3' := Lib.hid h3
  have h4' := Lib.hid h4
  have hs1' := Lib.hid hs1
  have hs2' := Lib.hid hs2
  have hb0 := Lib.hid ((Below.refl w.heap.size w).alloc (Nat.le_refl _) (.cells #[.int .i64 a, .int .i64 m, .int .i64 x, .slice A0 n0 c0] 26))
  have r3' := Lib.hid (r3.below hb0.out)
  have r4' := Lib.hid (r4.below hb0.out)
  have ha' := Lib.hid ha
  clear h3 h4 hs1 hs2 r3 r4 ha
  go_enter Tryd.func17, Tryd.ntmps17
  go_wp2_with fail
  generalize w.alloc (.cells #[.int .i64 a, .int .i64 m, .int .i64 x, .slice A0 n0 c0] 26) = w1 at hb0 r3' r4' ⊢
  go_loopw [13, 14, 15, 16] (fun iv jv pv qv wr => ∃ i j p q : Nat, i ≤ n3 ∧ j ≤ n4 ∧ iv = .int .i64 i ∧ jv = .int .i64 j ∧ pv = .int .i64 p ∧ qv = .int .i64 p ∧ p ≤ 4194304 ∧ wr = w1.drewN q ∧ Hid (p = (ls.drop i).sum ∧ ls.drop i = ms.drop j)) (fun iv _ _ _ _ => (intOf iv).toNat)
  case atStart => exact ⟨n3, n4, 0, 0, by omega, by omega, rfl, rfl, rfl, rfl, by omega, rfl, Lib.hid (by rw [← h3'.out, ← h4'.out, List.drop_length, List.drop_length]; exact ⟨rfl, rfl⟩)⟩
  case round =>
    obtain ⟨i, j, p, q, hi, hj, rfl, rfl, rfl, rfl, hp, rfl, he⟩ := hrel
    by_cases hgo : 0 < i ∧ 0 < j ∧ ls[i - 1]?.getD 0 = ms[j - 1]?.getD 0 ∧ p + ls[i - 1]?.getD 0 ≤ N
    · obtain ⟨g1, g2, g3, g4⟩ := hgo
      obtain ⟨b1, o1, rfl, _, q1⟩ := Rd.get r3'.out (k := i - 1) (by rw [h3'.out]; omega)
      obtain ⟨b2, o2, rfl, _, q2⟩ := Rd.get r4'.out (k := j - 1) (by rw [h4'.out]; omega)
      have hd1 := drop_get' (l := ls) (k := i - 1) (by rw [h3'.out]; omega)
      have hd2 := drop_get' (l := ms) (k := j - 1) (by rw [h4'.out]; omega)
      have hsum := sum_drop_le ls (i - 1)
      have hlim := hs1'.out
      rw [show i - 1 + 1 = i by omega] at hd1
      rw [show j - 1 + 1 = j by omega] at hd2
      rw [← g3] at q2 hd2
      generalize ls[i - 1]?.getD 0 = u at q1 q2 g3 g4 hd1 hd2
      have hnext : Hid (p + u = (ls.drop (i - 1)).sum ∧ ls.drop (i - 1) = ms.drop (j - 1)) := Lib.hid (by
        obtain ⟨e1, e2⟩ := he.out
        refine ⟨by rw [hd1, List.sum_cons, e1]; omega, by rw [hd1, hd2, e2]⟩)
      have hpu : p + u ≤ 4194304 := by rw [hnext.out.1]; omega
      obtain ⟨r, hr⟩ : ∃ r, i - 1 = r := ⟨_, rfl⟩
      obtain ⟨s, hs⟩ : ∃ s, j - 1 = s := ⟨_, rfl⟩
      rw [hr] at q1 hnext
      rw [hs] at q2 hnext
      have er : (i : Int) - 1 = (r : Int) := by omega
      have es : (j : Int) - 1 = (s : Int) := by omega
      have hri : r < n3 := by omega
      have hsj : s < n4 := by omega
      have hrr : r < i := by omega
      clear g3 hd1 hd2 hsum hlim hr hs he
      go_wp2_with fail
      go_quiet (fail)
      go_wp2_with fail
      go_roundw
      case rel => exact ⟨r, s, p + u, _, by omega, by omega, rfl, rfl, by go_num, by go_num, by omega, rfl, hnext⟩
      case measure => simp [intOf]; omega
    · have hnm : Hid (NoMore ls ms N i j) := Lib.hid (noMore_of he.out.2 (by rw [h3'.out]; exact hi) (by rw [h4'.out]; exact hj) (by
        rw [← he.out.1]
        by_cases g1 : 0 < i
        · by_cases g2 : 0 < j
          · by_cases g3 : ls[i - 1]?.getD 0 = ms[j - 1]?.getD 0
            · exact .inr (.inr (.inr (by
                by_cases g4 : p + ls[i - 1]?.getD 0 ≤ N
                · exact absurd ⟨g1, g2, g3, g4⟩ hgo
                · omega)))
            · exact .inr (.inr (.inl g3))
          · exact .inr (.inl (by omega))
        · exact .inl (by omega)))
      have hways : (i = 0 ∧ decide (0 < i) = false) ∨ (0 < i ∧ j = 0 ∧ decide (0 < j) = false) ∨ (0 < i ∧ 0 < j ∧ ls[i - 1]?.getD 0 ≠ ms[j - 1]?.getD 0) ∨ (0 < i ∧ 0 < j ∧ ls[i - 1]?.getD 0 = ms[j - 1]?.getD 0 ∧ N < p + ls[i - 1]?.getD 0) := by
        by_cases g1 : 0 < i
        · by_cases g2 : 0 < j
          · by_cases g3 : ls[i - 1]?.getD 0 = ms[j - 1]?.getD 0
            · exact .inr (.inr (.inr ⟨g1, g2, g3, by
                by_cases g4 : p + ls[i - 1]?.getD 0 ≤ N
                · exact absurd ⟨g1, g2, g3, g4⟩ hgo
                · omega⟩))
            · exact .inr (.inr (.inl ⟨g1, g2, g3⟩))
          · exact .inr (.inl ⟨g1, by omega, decide_eq_false g2⟩)
        · exact .inl ⟨by omega, decide_eq_false g1⟩
      clear hgo
      rcases hways with ⟨g1, d1⟩ | ⟨g1, g2, d2⟩ | ⟨g1, g2, g3⟩ | ⟨g1, g2, g3, g4⟩
      rotate_left 2
      · obtain ⟨b1, o1, rfl, _, q1⟩ := Rd.get r3'.out (k := i - 1) (by rw [h3'.out]; omega)
        obtain ⟨b2, o2, rfl, _, q2⟩ := Rd.get r4'.out (k := j - 1) (by rw [h4'.out]; omega)
        generalize ls[i - 1]?.getD 0 = u at q1 g3
        generalize ms[j - 1]?.getD 0 = v at q2 g3
        have d3 : ((u : Int) == (v : Int)) = false := by simp; omega
        obtain ⟨r, hr⟩ : ∃ r, i - 1 = r := ⟨_, rfl⟩
        obtain ⟨s, hs⟩ : ∃ s, j - 1 = s := ⟨_, rfl⟩
        rw [hr] at q1
        rw [hs] at q2
        have er : (i : Int) - 1 = (r : Int) := by omega
        have es : (j : Int) - 1 = (s : Int) := by omega
        have hri : r < n3 := by omega
        have hsj : s < n4 := by omega
        clear hr hs g3
        go_wp2_with fail
        go_quiet (fail)
        go_wp2_with fail
        go_loopw [13, 15] (fun iv pv wr => ∃ i2 p2 q2 : Nat, i2 ≤ i ∧ iv = .int .i64 i2 ∧ pv = .int .i64 p2 ∧ p2 ≤ 4194304 ∧ wr = w1.drewN q2 ∧ Hid (p2 = (ls.drop i2).sum)) (fun iv _ _ => (intOf iv).toNat)
        case atStart => exact ⟨i, p, q + nq, by omega, rfl, rfl, hp, World.drewN_drewN _ _ _, Lib.hid he.out.1⟩
        case round =>
          obtain ⟨i2, p2, qq, hi2, rfl, rfl, hp2, rfl, hst⟩ := hrel
          by_cases e0 : 0 < i2
          · obtain ⟨b3, o3, hA3, _, q3⟩ := Rd.get r3'.out (k := i2 - 1) (by rw [h3'.out]; omega)
            have hsum2 := sum_drop_le ls (i2 - 1)
            have hlim2 := hs1'.out
            have hd3 := sum_drop_get (l := ls) (k := i2 - 1) (by rw [h3'.out]; omega)
            rw [show i2 - 1 + 1 = i2 by omega, ← hst.out] at hd3
            generalize ls[i2 - 1]?.getD 0 = u2 at q3 hd3
            obtain ⟨r2, hr2⟩ : ∃ r2, i2 - 1 = r2 := ⟨_, rfl⟩
            rw [hr2] at q3 hd3 hsum2
            have er2 : (i2 : Int) - 1 = (r2 : Int) := by omega
            have hri2 : r2 < n3 := by omega
            have hri3 : r2 < i2 := by omega
            have hpu2 : p2 + u2 ≤ 4194304 := by omega
            have hp3 : Hid (p2 + u2 = (ls.drop r2).sum) := Lib.hid (by omega)
            clear hr2 hd3 hlim2 hsum2 hst
            (try subst hA3)
            (try (obtain ⟨hx1, hx2⟩ : b3 = b1 ∧ o3 = o1 := by (injection hA3 with hA3; injection hA3 with hx1 hx2; exact ⟨hx1.symm, hx2.symm⟩)); subst hx1 hx2; clear hA3)
            by_cases hpast : N < p2 + u2
            · have hpast' : (N : Int) < (p2 : Int) + (u2 : Int) := by omega
              clear hpast
              go_wp2_with fail
              go_ret
              exact ⟨rfl, below_drewN hb0.out _⟩
            · have hpast' : (p2 : Int) + (u2 : Int) ≤ (N : Int) := by omega
              clear hpast
              go_wp2_with fail
              go_loopw [17, 18] (fun tv kv wr => ∃ k t q3 : Nat, k ≤ j ∧ kv = .int .i64 k ∧ tv = .int .i64 t ∧ t ≤ 4194304 ∧ wr = w1.drewN q3 ∧ Hid (t = (ms.drop k).sum)) (fun _ kv _ => (intOf kv).toNat)
              case atStart => exact ⟨j, p, qq, by omega, rfl, rfl, hp, rfl, Lib.hid (by rw [he.out.1, he.out.2])⟩
              case round =>
                obtain ⟨k, t, q4, hk, rfl, rfl, ht, rfl, hts⟩ := hrel
                by_cases e1 : 0 < k ∧ t < p2 + u2
                · obtain ⟨e2, e3⟩ := e1
                  have e3' : (t : Int) < (p2 : Int) + (u2 : Int) := by omega
                  obtain ⟨b4, o4, hA4, _, q5⟩ := Rd.get r4'.out (k := k - 1) (by rw [h4'.out]; omega)
                  have hsum4 := sum_drop_le ms (k - 1)
                  have hlim4 := hs2'.out
                  have hd4 := sum_drop_get (l := ms) (k := k - 1) (by rw [h4'.out]; omega)
                  rw [show k - 1 + 1 = k by omega, ← hts.out] at hd4
                  generalize ms[k - 1]?.getD 0 = v2 at q5 hd4
                  obtain ⟨r4, hr4⟩ : ∃ r4, k - 1 = r4 := ⟨_, rfl⟩
                  rw [hr4] at q5 hd4 hsum4
                  have er4 : (k : Int) - 1 = (r4 : Int) := by omega
                  have hri4 : r4 < n4 := by omega
                  have hri5 : r4 < k := by omega
                  have hpu4 : t + v2 ≤ 4194304 := by omega
                  have hts4 : Hid (t + v2 = (ms.drop r4).sum) := Lib.hid (by omega)
                  clear hr4 hd4 hlim4 hsum4 hts
                  (try subst hA4)
                  (try (obtain ⟨hx1, hx2⟩ : b4 = b2 ∧ o4 = o2 := by (injection hA4 with hA4; injection hA4 with hx1 hx2; exact ⟨hx1.symm, hx2.symm⟩)); subst hx1 hx2; clear hA4)
                  go_wp2_with fail
                  go_roundw
                  case rel => exact ⟨r4, t + v2, _, by omega, rfl, by go_num, by omega, rfl, hts4⟩
                  case measure => simp [intOf]; omega
                · have hne : t ≠ p2 + u2 := by
                    intro e
                    have h1 : (ls.drop r2).sum = (ms.drop k).sum := by rw [← hp3.out, ← hts.out, e]
                    have h2 := ha'.out r2 k h1 (by rw [← hp3.out]; omega)
                    by_cases hkj : k < j
                    · exact hnm.out r2 k (by omega) hkj h2 (by rw [← hp3.out]; omega)
                    · obtain rfl : k = j := by omega
                      have h5 := congrArg List.length (h2.trans he.out.2.symm)
                      simp only [List.length_drop, h3'.out] at h5
                      omega
                  have hne' : ((t : Int) == (p2 : Int) + (u2 : Int)) = false := by simp; omega
                  by_cases e2 : 0 < k
                  · have e3' : (p2 : Int) + (u2 : Int) ≤ (t : Int) := by omega
                    clear hne e1
                    go_wp2_with fail
                    go_roundw
                    case rel => exact ⟨r2, p2 + u2, _, by omega, rfl, by go_num, by omega, rfl, hp3⟩
                    case measure => simp [intOf]; omega
                  · clear hne e1
                    go_wp2_with fail
                    go_roundw
                    case rel => exact ⟨r2, p2 + u2, _, by omega, rfl, by go_num, by omega, rfl, hp3⟩
                    case measure => simp [intOf]; omega
          · go_wp2_with fail
            go_ret
            exact ⟨rfl, below_drewN hb0.out _⟩
      · obtain ⟨b1, o1, rfl, _, q1⟩ := Rd.get r3'.out (k := i - 1) (by rw [h3'.out]; omega)
        obtain ⟨b2, o2, rfl, _, q2⟩ := Rd.get r4'.out (k := j - 1) (by rw [h4'.out]; omega)
        rw [← g3] at q2
        have hsum := sum_drop_le ls (i - 1)
        have hlim := hs1'.out
        have hd1 := sum_drop_get (l := ls) (k := i - 1) (by rw [h3'.out]; omega)
        rw [show i - 1 + 1 = i by omega, ← he.out.1] at hd1
        generalize ls[i - 1]?.getD 0 = u at q1 q2 g3 g4 hd1
        obtain ⟨r, hr⟩ : ∃ r, i - 1 = r := ⟨_, rfl⟩
        obtain ⟨s, hs⟩ : ∃ s, j - 1 = s := ⟨_, rfl⟩
        rw [hr] at q1
        rw [hs] at q2
        have er : (i : Int) - 1 = (r : Int) := by omega
        have es : (j : Int) - 1 = (s : Int) := by omega
        have hri : r < n3 := by omega
        have hsj : s < n4 := by omega
        have hpu : p + u ≤ 4194304 := by omega
        clear hr hs g3 hd1 hlim hsum
        go_wp2_with fail
        go_quiet (fail)
        go_wp2_with fail
        go_loopw [13, 15] (fun iv pv wr => ∃ i2 p2 q2 : Nat, i2 ≤ i ∧ iv = .int .i64 i2 ∧ pv = .int .i64 p2 ∧ p2 ≤ 4194304 ∧ wr = w1.drewN q2 ∧ Hid (p2 = (ls.drop i2).sum)) (fun iv _ _ => (intOf iv).toNat)
        case atStart => exact ⟨i, p, q + nq, by omega, rfl, rfl, hp, World.drewN_drewN _ _ _, Lib.hid he.out.1⟩
        case round =>
          obtain ⟨i2, p2, qq, hi2, rfl, rfl, hp2, rfl, hst⟩ := hrel
          by_cases e0 : 0 < i2
          · obtain ⟨b3, o3, hA3, _, q3⟩ := Rd.get r3'.out (k := i2 - 1) (by rw [h3'.out]; omega)
            have hsum2 := sum_drop_le ls (i2 - 1)
            have hlim2 := hs1'.out
            have hd3 := sum_drop_get (l := ls) (k := i2 - 1) (by rw [h3'.out]; omega)
            rw [show i2 - 1 + 1 = i2 by omega, ← hst.out] at hd3
            generalize ls[i2 - 1]?.getD 0 = u2 at q3 hd3
            obtain ⟨r2, hr2⟩ : ∃ r2, i2 - 1 = r2 := ⟨_, rfl⟩
            rw [hr2] at q3 hd3 hsum2
            have er2 : (i2 : Int) - 1 = (r2 : Int) := by omega
            have hri2 : r2 < n3 := by omega
            have hri3 : r2 < i2 := by omega
            have hpu2 : p2 + u2 ≤ 4194304 := by omega
            have hp3 : Hid (p2 + u2 = (ls.drop r2).sum) := Lib.hid (by omega)
            clear hr2 hd3 hlim2 hsum2 hst
            (try subst hA3)
            (try (obtain ⟨hx1, hx2⟩ : b3 = b1 ∧ o3 = o1 := by (injection hA3 with hA3; injection hA3 with hx1 hx2; exact ⟨hx1.symm, hx2.symm⟩)); subst hx1 hx2; clear hA3)
            by_cases hpast : N < p2 + u2
            · have hpast' : (N : Int) < (p2 : Int) + (u2 : Int) := by omega
              clear hpast
              go_wp2_with fail
              go_ret
              exact ⟨rfl, below_drewN hb0.out _⟩
            · have hpast' : (p2 : Int) + (u2 : Int) ≤ (N : Int) := by omega
              clear hpast
              go_wp2_with fail
              go_loopw [17, 18] (fun tv kv wr => ∃ k t q3 : Nat, k ≤ j ∧ kv = .int .i64 k ∧ tv = .int .i64 t ∧ t ≤ 4194304 ∧ wr = w1.drewN q3 ∧ Hid (t = (ms.drop k).sum)) (fun _ kv _ => (intOf kv).toNat)
              case atStart => exact ⟨j, p, qq, by omega, rfl, rfl, hp, rfl, Lib.hid (by rw [he.out.1, he.out.2])⟩
              case round =>
                obtain ⟨k, t, q4, hk, rfl, rfl, ht, rfl, hts⟩ := hrel
                by_cases e1 : 0 < k ∧ t < p2 + u2
                · obtain ⟨e2, e3⟩ := e1
                  have e3' : (t : Int) < (p2 : Int) + (u2 : Int) := by omega
                  obtain ⟨b4, o4, hA4, _, q5⟩ := Rd.get r4'.out (k := k - 1) (by rw [h4'.out]; omega)
                  have hsum4 := sum_drop_le ms (k - 1)
                  have hlim4 := hs2'.out
                  have hd4 := sum_drop_get (l := ms) (k := k - 1) (by rw [h4'.out]; omega)
                  rw [show k - 1 + 1 = k by omega, ← hts.out] at hd4
                  generalize ms[k - 1]?.getD 0 = v2 at q5 hd4
                  obtain ⟨r4, hr4⟩ : ∃ r4, k - 1 = r4 := ⟨_, rfl⟩
                  rw [hr4] at q5 hd4 hsum4
                  have er4 : (k : Int) - 1 = (r4 : Int) := by omega
                  have hri4 : r4 < n4 := by omega
                  have hri5 : r4 < k := by omega
                  have hpu4 : t + v2 ≤ 4194304 := by omega
                  have hts4 : Hid (t + v2 = (ms.drop r4).sum) := Lib.hid (by omega)
                  clear hr4 hd4 hlim4 hsum4 hts
                  (try subst hA4)
                  (try (obtain ⟨hx1, hx2⟩ : b4 = b2 ∧ o4 = o2 := by (injection hA4 with hA4; injection hA4 with hx1 hx2; exact ⟨hx1.symm, hx2.symm⟩)); subst hx1 hx2; clear hA4)
                  go_wp2_with fail
                  go_roundw
                  case rel => exact ⟨r4, t + v2, _, by omega, rfl, by go_num, by omega, rfl, hts4⟩
                  case measure => simp [intOf]; omega
                · have hne : t ≠ p2 + u2 := by
                    intro e
                    have h1 : (ls.drop r2).sum = (ms.drop k).sum := by rw [← hp3.out, ← hts.out, e]
                    have h2 := ha'.out r2 k h1 (by rw [← hp3.out]; omega)
                    by_cases hkj : k < j
                    · exact hnm.out r2 k (by omega) hkj h2 (by rw [← hp3.out]; omega)
                    · obtain rfl : k = j := by omega
                      have h5 := congrArg List.length (h2.trans he.out.2.symm)
                      simp only [List.length_drop, h3'.out] at h5
                      omega
                  have hne' : ((t : Int) == (p2 : Int) + (u2 : Int)) = false := by simp; omega
                  by_cases e2 : 0 < k
                  · have e3' : (p2 : Int) + (u2 : Int) ≤ (t : Int) := by omega
                    clear hne e1
                    go_wp2_with fail
                    go_roundw
                    case rel => exact ⟨r2, p2 + u2, _, by omega, rfl, by go_num, by omega, rfl, hp3⟩
                    case measure => simp [intOf]; omega
                  · clear hne e1
                    go_wp2_with fail
                    go_roundw
                    case rel => exact ⟨r2, p2 + u2, _, by omega, rfl, by go_num, by omega, rfl, hp3⟩
                    case measure => simp [intOf]; omega
          · go_wp2_with fail
            go_ret
            exact ⟨rfl, below_drewN hb0.out _⟩
      · go_wp2_with fail
        go_quiet (fail)
        go_wp2_with fail
        go_loopw [13, 15] (fun iv pv wr => ∃ i2 p2 q2 : Nat, i2 ≤ i ∧ iv = .int .i64 i2 ∧ pv = .int .i64 p2 ∧ p2 ≤ 4194304 ∧ wr = w1.drewN q2 ∧ Hid (p2 = (ls.drop i2).sum)) (fun iv _ _ => (intOf iv).toNat)
        case atStart => exact ⟨i, p, q + nq, by omega, rfl, rfl, hp, World.drewN_drewN _ _ _, Lib.hid he.out.1⟩
        case round =>
          obtain ⟨i2, p2, qq, hi2, rfl, rfl, hp2, rfl, hst⟩ := hrel
          by_cases e0 : 0 < i2
          · exfalso
            omega
          · go_wp2_with fail
            go_ret
            exact ⟨rfl, below_drewN hb0.out _⟩
      · go_wp2_with fail
        go_quiet (fail)
        go_wp2_with fail
        go_loopw [13, 15] (fun iv pv wr => ∃ i2 p2 q2 : Nat, i2 ≤ i ∧ iv = .int .i64 i2 ∧ pv = .int .i64 p2 ∧ p2 ≤ 4194304 ∧ wr = w1.drewN q2 ∧ Hid (p2 = (ls.drop i2).sum)) (fun iv _ _ => (intOf iv).toNat)
        case atStart => exact ⟨i, p, q + nq, by omega, rfl, rfl, hp, World.drewN_drewN _ _ _, Lib.hid he.out.1⟩
        case round =>
          obtain ⟨i2, p2, qq, hi2, rfl, rfl, hp2, rfl, hst⟩ := hrel
          by_cases e0 : 0 < i2
          · obtain ⟨b3, o3, hA3, _, q3⟩ := Rd.get r3'.out (k := i2 - 1) (by rw [h3'.out]; omega)
            have hsum2 := sum_drop_le ls (i2 - 1)
            have hlim2 := hs1'.out
            have hd3 := sum_drop_get (l := ls) (k := i2 - 1) (by rw [h3'.out]; omega)
            rw [show i2 - 1 + 1 = i2 by omega, ← hst.out] at hd3
            generalize ls[i2 - 1]?.getD 0 = u2 at q3 hd3
            obtain ⟨r2, hr2⟩ : ∃ r2, i2 - 1 = r2 := ⟨_, rfl⟩
            rw [hr2] at q3 hd3 hsum2
            have er2 : (i2 : Int) - 1 = (r2 : Int) := by omega
            have hri2 : r2 < n3 := by omega
            have hri3 : r2 < i2 := by omega
            have hpu2 : p2 + u2 ≤ 4194304 := by omega
            have hp3 : Hid (p2 + u2 = (ls.drop r2).sum) := Lib.hid (by omega)
            clear hr2 hd3 hlim2 hsum2 hst
            (try subst hA3)
            (try (obtain ⟨hx1, hx2⟩ : b3 = b1 ∧ o3 = o1 := by (injection hA3 with hA3; injection hA3 with hx1 hx2; exact ⟨hx1.symm, hx2.symm⟩)); subst hx1 hx2; clear hA3)
            by_cases hpast : N < p2 + u2
            · have hpast' : (N : Int) < (p2 : Int) + (u2 : Int) := by omega
              clear hpast
              go_wp2_with fail
              go_ret
              exact ⟨rfl, below_drewN hb0.out _⟩
            · have hpast' : (p2 : Int) + (u2 : Int) ≤ (N : Int) := by omega
              clear hpast
              go_wp2_with fail
              go_loopw [17, 18] (fun tv kv wr => ∃ k t q3 : Nat, k ≤ j ∧ kv = .int .i64 k ∧ tv = .int .i64 t ∧ t ≤ 4194304 ∧ wr = w1.drewN q3 ∧ Hid (t = (ms.drop k).sum)) (fun _ kv _ => (intOf kv).toNat)
              case atStart => exact ⟨j, p, qq, by omega, rfl, rfl, hp, rfl, Lib.hid (by rw [he.out.1, he.out.2])⟩
              case round =>
                obtain ⟨k, t, q4, hk, rfl, rfl, ht, rfl, hts⟩ := hrel
                by_cases e1 : 0 < k ∧ t < p2 + u2
                · exfalso
                  omega
                · have hne : t ≠ p2 + u2 := by
                    intro e
                    have h1 : (ls.drop r2).sum = (ms.drop k).sum := by rw [← hp3.out, ← hts.out, e]
                    have h2 := ha'.out r2 k h1 (by rw [← hp3.out]; omega)
                    by_cases hkj : k < j
                    · exact hnm.out r2 k (by omega) hkj h2 (by rw [← hp3.out]; omega)
                    · obtain rfl : k = j := by omega
                      have h5 := congrArg List.length (h2.trans he.out.2.symm)
                      simp only [List.length_drop, h3'.out] at h5
                      omega
                  have hne' : ((t : Int) == (p2 : Int) + (u2 : Int)) = false := by simp; omega
                  by_cases e2 : 0 < k
                  · exfalso
                    omega
                  · clear hne e1
                    go_wp2_with fail
                    go_roundw
                    case rel => exact ⟨r2, p2 + u2, _, by omega, rfl, by go_num, by omega, rfl, hp3⟩
                    case measure => simp [intOf]; omega
          · go_wp2_with fail
            go_ret
            exact ⟨rfl, below_drewN hb0.out _⟩
end Go.Proofs.YtnjbpacnmiimlaaDoor
