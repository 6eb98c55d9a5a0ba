/- ahead: as long as two lists begin alike, they are cut alike. -/
import Derived.Test.YtnjbpacnmiimlaaDoorGearL
import Derived.Test.YtnjbpacnmiimlaaDoorGearB
namespace Go.Proofs.YtnjbpacnmiimlaaDoor
open Go.RowKit

theorem get_some {l : List Nat} {k : Nat} (h : k < l.length) : l[k]? = some (l[k]?.getD 0) := by rw [List.getElem?_eq_getElem h]; rfl
theorem take_eq_succ {X Y : List Nat} {k : Nat} (h : X.take k = Y.take k) (h1 : k < X.length) (h2 : k < Y.length) (h3 : X[k]?.getD 0 = Y[k]?.getD 0) : X.take (k + 1) = Y.take (k + 1) := by
  rw [List.take_add_one, List.take_add_one, h, get_some h1, get_some h2, h3]
theorem sum_take_le (l : List Nat) (i : Nat) : (l.take i).sum ≤ l.sum := by
  have := Gear.sum_le_of_take l i
  omega

/-- What the cuts of two lists have in common. -/
def Alike (X Y ls ms : List Nat) : Prop := ∀ p i u v : Nat, X.take p = Y.take p → i + 1 < ls.length → i + 1 < ms.length → ls.take i = ms.take i → ls[i]? = some u → ms[i]? = some v → (ls.take i).sum + u ≤ p ∨ (ls.take i).sum + v ≤ p → u = v

set_option maxRecDepth 20000 in
set_option maxHeartbeats 2000000 in
theorem ahead_any (X Y ls ms : List Nat) (A1 A2 A3 A4 : Option Addr) (n1 n2 n3 n4 c1 c2 c3 c4 B : Nat) (w : World) (h1 : X.length = n1) (h2 : Y.length = n2) (h3 : ls.length = n3) (h4 : ms.length = n4) (hn1 : n1 ≤ 4194304) (hn2 : n2 ≤ 4194304)
    (hs1 : ls.sum ≤ 4194304) (hs2 : ms.sum ≤ 4194304) (hl3 : n3 ≤ 4194304) (r1 : Byt w B A1 X) (r2 : Byt w B A2 Y) (r3 : Nts w B A3 ls) (r4 : Nts w B A4 ms) (ha : Alike X Y ls ms) :
    Calls Tryd.prog 18 #[.slice A1 n1 c1, .slice A2 n2 c2, .slice A3 n3 c3, .slice A4 n4 c4] w fun e w' => e = .returned (.bool true) ∧ ∃ m, w' = w.drewN m := by
  have h1' := Lib.hid h1
  have h2' := Lib.hid h2
  have h3' := Lib.hid h3
  have h4' := Lib.hid h4
  have hs1' := Lib.hid hs1
  have hs2' := Lib.hid hs2
  have r1' := Lib.hid r1
  have r2' := Lib.hid r2
  have r3' := Lib.hid r3
  have r4' := Lib.hid r4
  have ha' := Lib.hid ha
  clear h1 h2 h3 h4 hs1 hs2 r1 r2 r3 r4 ha
  go_enter Tryd.func18, Tryd.ntmps18
  go_wp2_with fail
  go_loopw [9] (fun i wr => ∃ k q : Nat, k ≤ n1 ∧ k ≤ n2 ∧ i = .int .i64 k ∧ wr = w.drewN q ∧ Hid (X.take k = Y.take k)) (fun i _ => n1 - (intOf i).toNat)
  case atStart => exact ⟨0, 0, by omega, by omega, rfl, rfl, Lib.hid rfl⟩
  case round =>
    obtain ⟨k, q, hk1, hk2, rfl, rfl, hxy⟩ := hrel
    by_cases hgo : k < n1 ∧ k < n2 ∧ X[k]?.getD 0 = Y[k]?.getD 0
    · obtain ⟨g1, g2, g3⟩ := hgo
      have hnext := Lib.hid (take_eq_succ hxy.out (by rw [h1'.out]; exact g1) (by rw [h2'.out]; exact g2) g3)
      obtain ⟨b1, o1, rfl, _, q1⟩ := Rd.get r1'.out (by rw [h1'.out]; exact g1)
      obtain ⟨b2, o2, rfl, _, q2⟩ := Rd.get r2'.out (by rw [h2'.out]; exact g2)
      rw [← g3] at q2
      generalize X[k]?.getD 0 = z at q1 q2 g3
      clear g3
      go_wp2_with fail
      go_quiet (fail)
      go_wp2_with fail
      go_roundw
      case rel => exact ⟨k + 1, _, by omega, by omega, by go_num, rfl, hnext⟩
      case measure => simp [intOf]; omega
    · have hways : (n1 ≤ k ∧ decide (k < n1) = false) ∨ (k < n1 ∧ n2 ≤ k ∧ decide (k < n2) = false) ∨ (k < n1 ∧ k < n2 ∧ X[k]?.getD 0 ≠ Y[k]?.getD 0) := by
        by_cases g1 : k < n1
        · by_cases g2 : k < n2
          · exact .inr (.inr ⟨g1, g2, fun e => hgo ⟨g1, g2, e⟩⟩)
          · exact .inr (.inl ⟨g1, by omega, decide_eq_false g2⟩)
        · exact .inl ⟨by omega, decide_eq_false g1⟩
      clear hgo
      rcases hways with ⟨g1, d1⟩ | ⟨g1, g2, d2⟩ | ⟨g1, g2, g3⟩
      rotate_left 2
      obtain ⟨b1, o1, rfl, _, q1⟩ := Rd.get r1'.out (by rw [h1'.out]; exact g1)
      obtain ⟨b2, o2, rfl, _, q2⟩ := Rd.get r2'.out (by rw [h2'.out]; exact g2)
      generalize X[k]?.getD 0 = z1 at q1 g3
      generalize Y[k]?.getD 0 = z2 at q2 g3
      have d3 : ((z1 : Int) == (z2 : Int)) = false := by simp; omega
      all_goals go_wp2_with fail
      all_goals go_quiet (fail)
      all_goals go_wp2_with fail
      all_goals
        go_loopw [10, 11] (fun av iv wr => ∃ i s q2 : Nat, i ≤ n3 ∧ iv = .int .i64 i ∧ av = .int .i64 s ∧ s ≤ 4194304 ∧ wr = w.drewN q2 ∧ Hid (s = (ls.take i).sum ∧ ls.take i = ms.take i)) (fun _ iv _ => n3 - (intOf iv).toNat)
        case atStart => exact ⟨0, 0, q + nq, by omega, rfl, rfl, by omega, World.drewN_drewN _ _ _, Lib.hid ⟨rfl, rfl⟩⟩
        case round =>
          obtain ⟨i, s, qq, hi, rfl, rfl, hs, rfl, hst⟩ := hrel
          by_cases e3 : i + 1 < n3
          · by_cases e4 : i + 1 < n4
            · obtain ⟨b3, o3, rfl, _, q3⟩ := Rd.get r3'.out (k := i) (by rw [h3'.out]; omega)
              obtain ⟨b4, o4, rfl, _, q4⟩ := Rd.get r4'.out (k := i) (by rw [h4'.out]; omega)
              have g3 := get_some (l := ls) (k := i) (by rw [h3'.out]; omega)
              have g4 := get_some (l := ms) (k := i) (by rw [h4'.out]; omega)
              have t3 := Gear.sum_take_snoc g3
              have t4 := Gear.sum_take_snoc g4
              have z3 := sum_take_le ls (i + 1)
              have z4 := sum_take_le ms (i + 1)
              have z5 := hs1'.out
              have z6 := hs2'.out
              obtain ⟨x1, x2⟩ := hst.out
              obtain ⟨u, hu⟩ : ∃ u, ls[i]?.getD 0 = u := ⟨_, rfl⟩
              obtain ⟨v, hv⟩ : ∃ v, ms[i]?.getD 0 = v := ⟨_, rfl⟩
              rw [hu] at q3 g3 t3
              rw [hv] at q4 g4 t4
              rw [← x2, ← x1] at t4
              rw [← x1] at t3
              have bu : s + u ≤ 4194304 := by omega
              have bv : s + v ≤ 4194304 := by omega
              by_cases hpast : k < s + u ∧ k < s + v
              · obtain ⟨p1, p2⟩ := hpast
                have p1' : (k : Int) < (s : Int) + (u : Int) := by omega
                have p2' : (k : Int) < (s : Int) + (v : Int) := by omega
                clear t3 t4 z3 z4 z5 z6 x1 x2 g3 g4 hu hv
                go_wp2_with fail
                go_ret
                exact ⟨rfl, _, rfl⟩
              · have huv : u = v := ha'.out k i u v hxy.out (by rw [h3'.out]; exact e3) (by rw [h4'.out]; exact e4) x2 g3 g4 (by rw [← x1]; omega)
                subst huv
                have hnext : Hid (s + u = (ls.take (i + 1)).sum ∧ ls.take (i + 1) = ms.take (i + 1)) := Lib.hid ⟨t3.symm, by rw [List.take_add_one, List.take_add_one, x2, g3, g4]⟩
                have p1' : (s : Int) + (u : Int) ≤ (k : Int) := by omega
                clear t3 t4 z3 z4 z5 z6 x1 x2 g3 g4 hu hv hpast
                go_wp2_with fail
                go_quiet (fail)
                go_wp2_with fail
                go_roundw
                case rel => exact ⟨i + 1, s + u, _, by omega, by go_num, by go_num, by omega, rfl, hnext⟩
                case measure => simp [intOf]; omega
            · go_wp2_with fail
              go_ret
              exact ⟨rfl, _, rfl⟩
          · go_wp2_with fail
            go_ret
            exact ⟨rfl, _, rfl⟩
end Go.Proofs.YtnjbpacnmiimlaaDoor
