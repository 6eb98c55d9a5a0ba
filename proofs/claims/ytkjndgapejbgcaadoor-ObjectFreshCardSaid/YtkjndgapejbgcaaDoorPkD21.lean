/- Why a tree's items may not be: the document's. (Printed by tools/genitems.py.) -/
import Derived.Test.YtkjndgapejbgcaaDoorPkD15

namespace Go.Proofs.YtkjndgapejbgcaaDoor
open Go.RowKit
set_option linter.unusedSimpArgs false

theorem mode_cases (mo z : Nat) : ((mo : Int) < 1 ∧ (mo < 1 ∨ 4 < mo ∨ (mo = 3 ∧ ¬ z = 0))) ∨ (1 ≤ (mo : Int) ∧ 4 < (mo : Int) ∧ (mo < 1 ∨ 4 < mo ∨ (mo = 3 ∧ ¬ z = 0))) ∨
    (1 ≤ (mo : Int) ∧ (mo : Int) ≤ 4 ∧ ((mo : Int) == 3) = true ∧ ((z : Int) != 0) = true ∧ (mo < 1 ∨ 4 < mo ∨ (mo = 3 ∧ ¬ z = 0))) ∨
    (1 ≤ (mo : Int) ∧ (mo : Int) ≤ 4 ∧ ((mo : Int) == 3) = true ∧ ((z : Int) != 0) = false ∧ ¬ (mo < 1 ∨ 4 < mo ∨ (mo = 3 ∧ ¬ z = 0))) ∨
    (1 ≤ (mo : Int) ∧ (mo : Int) ≤ 4 ∧ ((mo : Int) == 3) = false ∧ ¬ (mo < 1 ∨ 4 < mo ∨ (mo = 3 ∧ ¬ z = 0))) := by
  simp only [beq_iff_eq, bne_iff_ne, beq_eq_false_iff_ne, bne_eq_false_iff_eq, ne_eq]
  omega
set_option maxRecDepth 100000 in
set_option maxHeartbeats 4000000 in
theorem refItems_any (w : World) (l : List ItemT) (A : Option Addr) (n c : Nat) (hn0 : l.length = n) (hr : Row encI 35 w w.heap.size A l) (hl : n ≤ 140737488355328) :
    Calls Tryd.prog 44 #[.slice A n c] w fun e w' => e = .returned (.int .i64 (itemsE none l : Nat)) ∧ Below w.heap.size w w' := by
  have hr' := Lib.hid hr
  have hn := Lib.hid (fun _ : Unit => hn0)
  obtain ⟨R, hR⟩ : ∃ R, itemsE none l = R := ⟨_, rfl⟩
  have hR' : Hid (itemsE (ahead l 0) (l.drop 0) = R) := Lib.hid hR
  rw [hR]
  clear hr hn0 hR
  go_enter Tryd.func44, Tryd.ntmps44
  go_wp2_with fail
  go_loopw [3] (fun iv wr => ∃ k : Nat, k ≤ n ∧ iv = .int .i64 (k : Int) ∧ Hid (itemsE (ahead l k) (l.drop k) = R) ∧ Hid (Below w.heap.size w wr)) (fun iv _ => n - (intOf iv).toNat)
  case atStart => exact ⟨0, by omega, rfl, hR', Lib.hid (Below.refl _ _)⟩
  case round =>
    clear hR'
    obtain ⟨k, hk, rfl, hR, hB⟩ := hrel
    by_cases hlt : k < n
    · have hkx : k < l.length := by rw [hn.out ()]; exact hlt
      obtain ⟨b, off, rfl, hb, hc⟩ := Row.elem (Rd.below hr'.out hB.out) encI_length (by decide) hkx
      have hRk := hR.out
      rw [itemsE_at hkx] at hRk
      obtain ⟨x, hx⟩ : ∃ x, l[k] = x := ⟨_, rfl⟩
      rw [hx] at hc hRk
      obtain ⟨nm, hnm⟩ : ∃ y, x.1 = y := ⟨_, rfl⟩
      obtain ⟨mo, hmo⟩ : ∃ y, x.2.1 = y := ⟨_, rfl⟩
      obtain ⟨z, hz⟩ : ∃ y, x.2.2.1 = y := ⟨_, rfl⟩
      have c0 : wr.cell? ⟨b, off + k * 35, none⟩ = some (.string nm) := hc 0 _ (by simp [encI, hnm])
      have c1 : wr.cell? ⟨b, off + k * 35 + 1, none⟩ = some (.int .u8 (mo : Int)) := hc 1 _ (by simp [encI, hmo])
      have c2 : wr.cell? ⟨b, off + k * 35 + 2, none⟩ = some (.int .u64 (z : Int)) := hc 2 _ (by simp [encI, hz])
      have hbm : badMode x = (mo < 1 ∨ 4 < mo ∨ (mo = 3 ∧ ¬ z = 0)) := by unfold badMode; rw [hmo, hz]
      rw [hnm] at hRk
      obtain ⟨ok, hok⟩ : ∃ ok, nameOk nm = ok := ⟨_, rfl⟩
      rw [hok] at hRk
      have hNm : ∀ w, Calls Tryd.prog 11 #[.string nm] w fun e w' => e = .returned (.bool ok) ∧ w = w' := fun w => by
        rw [← hok]
        exact named_any nm w
      cases ok with
      | false =>
        have hR43 : 43 = R := by simpa using hRk
        subst hR43
        clear hRk hbm hmo hz hnm hok hc hx hkx hR c1 c2
        go_wp2_with (refine (hNm _).mono ?_; rintro e w3 ⟨rfl, rfl⟩)
        go_ret
        exact ⟨rfl, hB.out⟩
      | true =>
        rw [if_neg (by decide)] at hRk
        rcases Nat.eq_zero_or_pos k with hk0 | hk0
        · subst hk0
          rw [ahead_zero, Option.any_none, if_neg (by decide)] at hRk
          have hbad : Hid ((mo < 1 ∨ 4 < mo ∨ (mo = 3 ∧ ¬ z = 0)) → R = 45) := Lib.hid fun h => by rw [if_pos (by rw [hbm]; exact h)] at hRk; exact hRk.symm
          have hgood : Hid (¬ (mo < 1 ∨ 4 < mo ∨ (mo = 3 ∧ ¬ z = 0)) → itemsE (ahead l (0 + 1)) (l.drop (0 + 1)) = R) := Lib.hid fun h => by rw [if_neg (by rw [hbm]; exact h)] at hRk; exact hRk
          rw [Nat.zero_mul, Nat.add_zero] at c0 c1 c2
          clear hRk hbm hmo hz hnm hok hc hx hkx hR
          rcases mode_cases mo z with ⟨h1, hv⟩ | ⟨h1, h2, hv⟩ | ⟨h1, h2, h3, h4, hv⟩ | ⟨h1, h2, h3, h4, hv⟩ | ⟨h1, h2, h3, hv⟩
          · have hv' := Lib.hid hv
            clear hv
            go_wp2_with (refine (hNm _).mono ?_; rintro e w3 ⟨rfl, rfl⟩)
            go_quiet (fail)
            go_wp2_with fail
            go_ret
            exact ⟨ret_int (by rw [hbad.out hv'.out]; rfl), by simpa using below_drewN hB.out _⟩
          · have hv' := Lib.hid hv
            clear hv
            go_wp2_with (refine (hNm _).mono ?_; rintro e w3 ⟨rfl, rfl⟩)
            go_quiet (fail)
            go_wp2_with fail
            go_ret
            exact ⟨ret_int (by rw [hbad.out hv'.out]; rfl), by simpa using below_drewN hB.out _⟩
          · have hv' := Lib.hid hv
            clear hv
            go_wp2_with (refine (hNm _).mono ?_; rintro e w3 ⟨rfl, rfl⟩)
            go_quiet (fail)
            go_wp2_with fail
            go_ret
            exact ⟨ret_int (by rw [hbad.out hv'.out]; rfl), by simpa using below_drewN hB.out _⟩
          · have hv' := Lib.hid hv
            clear hv
            go_wp2_with (refine (hNm _).mono ?_; rintro e w3 ⟨rfl, rfl⟩)
            go_quiet (fail)
            go_wp2_with fail
            go_roundw
            case rel => exact ⟨0 + 1, by omega, by go_num, Lib.hid (hgood.out hv'.out), Lib.hid (by simpa using below_drewN hB.out _)⟩
            case measure => simp [intOf]; omega
          · have hv' := Lib.hid hv
            clear hv
            go_wp2_with (refine (hNm _).mono ?_; rintro e w3 ⟨rfl, rfl⟩)
            go_quiet (fail)
            go_wp2_with fail
            go_roundw
            case rel => exact ⟨0 + 1, by omega, by go_num, Lib.hid (hgood.out hv'.out), Lib.hid (by simpa using below_drewN hB.out _)⟩
            case measure => simp [intOf]; omega
        · obtain ⟨j, hj⟩ : ∃ j, j + 1 = k := ⟨k - 1, by omega⟩
          have hjx : j < l.length := by omega
          obtain ⟨b2, off2, e2, _, hcj⟩ := Row.elem hr'.out encI_length (by decide) hjx
          obtain ⟨pn, hpn⟩ : ∃ y, (l[j]).1 = y := ⟨_, rfl⟩
          have hcp0 := hcj 0 (.string pn) (by simp [encI, hpn])
          injection e2 with e2
          injection e2 with e3 e4
          subst e3 e4
          have hcp : wr.cell? ⟨b, off + j * 35, none⟩ = some (.string pn) := (hB.out.cell hb).trans hcp0
          rw [show ahead l k = some l[j].1 from hj ▸ ahead_succ hjx, Option.any_some, hpn] at hRk
          obtain ⟨LE, hLE⟩ : ∃ q, leS nm pn = q := ⟨_, rfl⟩
          rw [hLE] at hRk
          have hq : ∀ w, (binOp .leq 9 (.string nm) (.string pn)).run Tryd.prog w = .ok (.bool LE) w := fun w => by rw [← hLE]; exact leq_run nm pn w
          have hq2 : (Op.bytesLess nm.toList pn.toList || nm.toList == pn.toList) = LE := hLE
          have hw1 : IntKind.i64.wrap ((k : Int) - 1) = (j : Int) := by rw [IntKind.wrap_i64]; omega
          clear hcj hcp0 hjx hpn
          cases LE with
          | true =>
            have hR44 : 44 = R := by simpa using hRk
            subst hR44
            clear hRk hbm hmo hz hnm hok hc hx hkx hR hLE
            go_wp2_with (refine (hNm _).mono ?_; rintro e w3 ⟨rfl, rfl⟩)
            go_quiet (fail)
            go_wp2_with fail
            go_ret
            exact ⟨rfl, by simpa using below_drewN hB.out _⟩
          | false =>
            rw [if_neg (by decide)] at hRk
            have hbad : Hid ((mo < 1 ∨ 4 < mo ∨ (mo = 3 ∧ ¬ z = 0)) → R = 45) := Lib.hid fun h => by rw [if_pos (by rw [hbm]; exact h)] at hRk; exact hRk.symm
            have hgood : Hid (¬ (mo < 1 ∨ 4 < mo ∨ (mo = 3 ∧ ¬ z = 0)) → itemsE (ahead l (k + 1)) (l.drop (k + 1)) = R) := Lib.hid fun h => by rw [if_neg (by rw [hbm]; exact h)] at hRk; exact hRk
            clear hRk hbm hmo hz hnm hok hc hx hkx hR hLE
            rcases mode_cases mo z with ⟨h1, hv⟩ | ⟨h1, h2, hv⟩ | ⟨h1, h2, h3, h4, hv⟩ | ⟨h1, h2, h3, h4, hv⟩ | ⟨h1, h2, h3, hv⟩
            · have hv' := Lib.hid hv
              clear hv
              go_wp2_with (refine (hNm _).mono ?_; rintro e w3 ⟨rfl, rfl⟩)
              go_quiet (fail)
              go_wp2_with fail
              go_ret
              exact ⟨ret_int (by rw [hbad.out hv'.out]; rfl), by simpa using below_drewN hB.out _⟩
            · have hv' := Lib.hid hv
              clear hv
              go_wp2_with (refine (hNm _).mono ?_; rintro e w3 ⟨rfl, rfl⟩)
              go_quiet (fail)
              go_wp2_with fail
              go_ret
              exact ⟨ret_int (by rw [hbad.out hv'.out]; rfl), by simpa using below_drewN hB.out _⟩
            · have hv' := Lib.hid hv
              clear hv
              go_wp2_with (refine (hNm _).mono ?_; rintro e w3 ⟨rfl, rfl⟩)
              go_quiet (fail)
              go_wp2_with fail
              go_ret
              exact ⟨ret_int (by rw [hbad.out hv'.out]; rfl), by simpa using below_drewN hB.out _⟩
            · have hv' := Lib.hid hv
              clear hv
              go_wp2_with (refine (hNm _).mono ?_; rintro e w3 ⟨rfl, rfl⟩)
              go_quiet (fail)
              go_wp2_with fail
              go_roundw
              case rel => exact ⟨k + 1, by omega, by go_num, Lib.hid (hgood.out hv'.out), Lib.hid (by simpa using below_drewN hB.out _)⟩
              case measure => simp [intOf]; omega
            · have hv' := Lib.hid hv
              clear hv
              go_wp2_with (refine (hNm _).mono ?_; rintro e w3 ⟨rfl, rfl⟩)
              go_quiet (fail)
              go_wp2_with fail
              go_roundw
              case rel => exact ⟨k + 1, by omega, by go_num, Lib.hid (hgood.out hv'.out), Lib.hid (by simpa using below_drewN hB.out _)⟩
              case measure => simp [intOf]; omega
    · obtain rfl : k = n := by omega
      have hRn : 0 = R := by
        have := hR.out
        rw [List.drop_eq_nil_of_le (by rw [hn.out ()]; exact Nat.le_refl _)] at this
        exact this
      subst hRn
      go_wp2_with fail
      go_ret
      exact ⟨rfl, hB.out⟩
end Go.Proofs.YtkjndgapejbgcaaDoor
