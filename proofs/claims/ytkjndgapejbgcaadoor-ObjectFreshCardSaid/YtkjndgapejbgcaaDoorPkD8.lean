/- A decoder's Var. (Printed by tools/gendecv.py.) A decoder's methods: Text, Key. -/
import Derived.Test.YtkjndgapejbgcaaDoorPkD7
import Derived.Laws.Shifts
import Derived.WalkSpells

namespace Go.Proofs.YtkjndgapejbgcaaDoor
open Go.RowKit
set_option linter.unusedSimpArgs false
set_option linter.unusedVariables false

set_option maxRecDepth 100000 in
theorem not128 : ∀ y : Nat, y < 256 → bits .andNot .u8 (y : Int) 128 = ((y % 128 : Nat) : Int) := by decide
theorem varG_step {most f i v k y : Nat} {l : List Nat} (h : l[k + i]? = some y) : varG most (f + 1) i v (l.drop (k + i)) =
    if i = 9 ∧ 1 < y then none else if y < 128 then (if (y = 0 ∧ 0 < i) ∨ most < v + y * 128 ^ i then none else some (v + y * 128 ^ i, i + 1)) else varG most f (i + 1) (v + (y - 128) * 128 ^ i) (l.drop (k + (i + 1))) := by
  obtain ⟨hlt, hy⟩ := List.getElem?_eq_some_iff.1 h
  rw [List.drop_eq_getElem_cons hlt, hy]
  rfl
theorem varG_end {most f i v k : Nat} {l : List Nat} (h : l.length ≤ k + i) : varG most f i v (l.drop (k + i)) = none := by
  rw [List.drop_eq_nil_of_le h]
  cases f <;> rfl
theorem ofInt64 (a : Nat) (ha : a < 18446744073709551616) : (BitVec.ofInt 64 (a : Int)).toNat = a := by
  rw [BitVec.toNat_ofInt]
  omega
theorem u64_or_nat (a b : Nat) (ha : a < 18446744073709551616) (hb : b < 18446744073709551616) : bits .or .u64 (a : Int) (b : Int) = ((a ||| b : Nat) : Int) := by
  have h : a ||| b < 2 ^ 64 := Nat.or_lt_two_pow (by omega) (by omega)
  show IntKind.u64.wrap ((BitVec.ofInt 64 (a : Int) ||| BitVec.ofInt 64 (b : Int)).toNat : Int) = _
  rw [BitVec.toNat_or, ofInt64 a ha, ofInt64 b hb, IntKind.wrap_u64]
  omega
theorem two7 (i : Nat) : 2 ^ (7 * i) = 128 ^ i := by rw [Nat.pow_mul]
theorem var_or {v y i N : Nat} (hv : v < 128 ^ i) (hi : i ≤ 9) (hy : (y % 128) * 128 ^ i < 18446744073709551616) (hN : v + (y % 128) * 128 ^ i = N) (hv64 : v < 18446744073709551616) : bits .or .u64 (v : Int) (IntKind.u64.wrap ((y : Int) % 128 * 2 ^ (7 * i))) = (N : Int) := by
  have e : (y : Int) % 128 * 2 ^ (7 * i) = (((y % 128) * 128 ^ i : Nat) : Int) := by rw [← two7]; push_cast; rfl
  have e2 : IntKind.u64.wrap ((((y % 128) * 128 ^ i : Nat) : Int)) = (((y % 128) * 128 ^ i : Nat) : Int) := by rw [IntKind.wrap_u64]; omega
  rw [e, e2, u64_or_nat _ _ hv64 hy]
  have h := Nat.two_pow_add_eq_or_of_lt (i := 7 * i) (b := v) (by rw [two7]; exact hv) (y % 128)
  rw [two7, Nat.or_comm, Nat.mul_comm] at h
  rw [← h]
  omega

def VarPost (w : World) (g : Nat) (A : Option Addr) (c : Nat) (l : List Nat) (r : Nat × DSt) (e : Ending) (w' : World) : Prop :=
  e = .returned (.int .u64 (r.1 : Int)) ∧ DecS w' g A c l r.2 ∧ w.grownBy w' (some g)

set_option maxRecDepth 20000 in
set_option maxHeartbeats 8000000 in
theorem vard_go {w : World} {g c k : Nat} {A : Option Addr} {l : List Nat} (h : DecAt w g A c l k none) (most : Nat) (hm : most < 18446744073709551616) :
    Calls Tryd.prog 104 #[.pointer (some ⟨g, 0, none⟩), .int .u64 (most : Int)] w (VarPost w g A c l (varM l most (some k))) := by
  have h' := Lib.hid h
  have hov := Lib.hid (over_any (s := some k) h)
  obtain ⟨L, hL⟩ : ∃ n, Hid (∀ _ : Unit, l.length = n) := ⟨_, Lib.hid fun _ => rfl⟩
  obtain ⟨R, hR⟩ : ∃ R, Hid (varG most 10 0 0 (l.drop k) = R) := ⟨_, Lib.hid rfl⟩
  obtain ⟨M, hM⟩ : ∃ M, Hid (∀ _ : Unit, varM l most (some k) = M) := ⟨_, Lib.hid fun _ => rfl⟩
  have hno : Hid (R = none → M = (0, none)) := Lib.hid fun hr => by
    rw [← hM.out ()]
    unfold varM
    simp only
    rw [hR.out, hr]
  have hyes : Hid (∀ x n, R = some (x, n) → M = (x, some (k + n))) := Lib.hid fun x n hr => by
    rw [← hM.out ()]
    unfold varM
    simp only
    rw [hR.out, hr]
  rw [hM.out ()]
  have c0 := h.c0
  have c1 := h.c1
  have f1 := h.fz 1
  have hle := h.le
  have hcap := h.cap
  rw [hL.out ()] at c0 hle hcap
  have hst := Lib.hid (fun (q : Nat) (x y : Int) => stop_any (h.drewN q) x y)
  have hmv : Hid (∀ (q k' : Nat) (K : Int), K = (k' : Int) → k' ≤ l.length → DecAt ((w.drewN q).setCell ⟨g, 1, none⟩ (.int .i64 K)) g A c l k' none ∧ w.grownBy ((w.drewN q).setCell ⟨g, 1, none⟩ (.int .i64 K)) (some g)) := Lib.hid fun q k' K hK hk' => by
    subst hK
    have := (h.drewN q).move hk'
    exact ⟨this.1, (grown_drewN w q _).trans this.2⟩
  clear h
  go_enter Tryd.func104, Tryd.ntmps104
  go_wp2_with (refine hov.out.mono ?_; rintro e w' ⟨rfl, rfl⟩)
  clear hov
  go_loopw [5, 10] (fun vv iv wr => ∃ (i v q : Nat), i ≤ 9 ∧ k + i ≤ L ∧ iv = .int .i64 (i : Int) ∧ vv = .int .u64 (v : Int) ∧ Hid (varG most (10 - i) i v (l.drop (k + i)) = R ∧ v < 128 ^ i) ∧ Hid (wr = w.drewN q)) (fun _ iv _ => 10 - (intOf iv).toNat)
  case atStart => exact ⟨0, 0, 0, by omega, by omega, rfl, rfl, Lib.hid ⟨hR.out, by simp⟩, Lib.hid rfl⟩
  case round =>
    clear hR
    obtain ⟨i, v, q, hi, hkl, rfl, rfl, hR, hq⟩ := hrel
    obtain rfl := hq.out
    clear hq
    have wki : IntKind.i64.wrap ((k : Int) + (i : Int)) = (k : Int) + (i : Int) := IntWalk.i64_in _ (by omega)
    have v64 : Hid (v < 18446744073709551616) := Lib.hid (by
      have h1 := hR.out.2
      have h2 : 128 ^ i ≤ 128 ^ 9 := Nat.pow_le_pow_right (by decide) hi
      have h3 : (128 : Nat) ^ 9 = 9223372036854775808 := by decide
      omega)
    by_cases hend : k + i < L
    · obtain ⟨y, hy⟩ : ∃ y, Hid (l[k + i]? = some y) := by
        have : k + i < l.length := by rw [hL.out ()]; exact hend
        exact ⟨l[k + i], Lib.hid (List.getElem?_eq_getElem this)⟩
      have hy256 : y < 256 := h'.out.lt y (List.mem_of_getElem? hy.out)
      obtain ⟨b, off, hA, hb, hcel⟩ := (h'.out.drewN q).byt.get (k := k + i) (by rw [hL.out ()]; exact hend)
      rw [hy.out, Option.getD_some] at hcel
      replace hcel : w.cell? ⟨b, off + (k + i), none⟩ = some (.int .u8 (y : Int)) := hcel
      rw [hA] at c0
      have hA' := Lib.hid hA
      clear hA hb
      have e1 : ((k : Int) + (i : Int) == (L : Int)) = false := by simp; omega
      have e2 : (0 : Int) ≤ (k : Int) + (i : Int) := by omega
      have e3 : (k : Int) + (i : Int) < (L : Int) := by omega
      have e4 : ((k : Int) + (i : Int)).toNat = k + i := by omega
      have n128 := not128 y hy256
      have hstep := hR.out.1
      rw [show 10 - i = (9 - i) + 1 by omega, varG_step hy.out] at hstep
      have hRb := Lib.hid hR.out.2
      clear hR
      by_cases h9 : i = 9
      · subst h9
        have e1 : ((k : Int) + 9 == (L : Int)) = false := e1
        have e2 : (0 : Int) ≤ (k : Int) + 9 := e2
        have e3 : (k : Int) + 9 < (L : Int) := e3
        have e4 : ((k : Int) + 9).toNat = k + 9 := e4
        have wki : IntKind.i64.wrap ((k : Int) + 9) = (k : Int) + 9 := wki
        have wki1 : IntKind.i64.wrap ((k : Int) + 10) = (k : Int) + 10 := IntWalk.i64_in _ (by omega)
        by_cases hy1 : 1 < y
        · have hRn : Hid (R = none) := Lib.hid (by rw [if_pos ⟨rfl, hy1⟩] at hstep; exact hstep.symm)
          clear hstep
          have t2 : (1 : Int) < (y : Int) := by omega
          by_cases h128 : y < 128
          · have t4 : (y : Int) < 128 := by omega
            go_wp2_with fail
            go_quiet (fail)
            go_wp2_with fail
            go_quiet (fail)
            go_wp2_with fail
            refine (hst.out _ _ _).mono ?_
            rintro e w2 ⟨⟨v0, rfl⟩, h2, g2⟩
            have h2' := Lib.hid h2
            have g2' := Lib.hid ((grown_drewN w _ _).trans g2)
            clear h2 g2
            go_wp2_with fail
            go_ret
            have hM0 := hno.out hRn.out
            exact ⟨by rw [hM0]; rfl, by rw [hM0]; exact h2'.out, g2'.out⟩
          · have t4 : (128 : Int) ≤ (y : Int) := by omega
            go_wp2_with fail
            go_quiet (fail)
            go_wp2_with fail
            go_quiet (fail)
            go_wp2_with fail
            refine (hst.out _ _ _).mono ?_
            rintro e w2 ⟨⟨v0, rfl⟩, h2, g2⟩
            have h2' := Lib.hid h2
            have g2' := Lib.hid ((grown_drewN w _ _).trans g2)
            clear h2 g2
            go_wp2_with fail
            go_ret
            have hM0 := hno.out hRn.out
            exact ⟨by rw [hM0]; rfl, by rw [hM0]; exact h2'.out, g2'.out⟩
        · rw [if_neg (fun h => hy1 h.2), if_pos (show y < 128 by omega)] at hstep
          rcases (by omega : y = 0 ∨ y = 1) with rfl | rfl
          · have hRn : Hid (R = none) := Lib.hid (by rw [if_pos (Or.inl ⟨rfl, by decide⟩)] at hstep; exact hstep.symm)
            clear hstep
            replace hcel : w.cell? ⟨b, off + (k + 9), none⟩ = some (.int .u8 0) := hcel
            replace n128 : bits .andNot .u8 0 128 = 0 := n128
            go_wp2_with fail
            go_quiet (fail)
            go_wp2_with fail
            go_quiet (fail)
            go_wp2_with fail
            refine (hst.out _ _ _).mono ?_
            rintro e w2 ⟨⟨v0, rfl⟩, h2, g2⟩
            have h2' := Lib.hid h2
            have g2' := Lib.hid ((grown_drewN w _ _).trans g2)
            clear h2 g2
            go_wp2_with fail
            go_ret
            have hM0 := hno.out hRn.out
            exact ⟨by rw [hM0]; rfl, by rw [hM0]; exact h2'.out, g2'.out⟩
          · replace hcel : w.cell? ⟨b, off + (k + 9), none⟩ = some (.int .u8 1) := hcel
            replace n128 : bits .andNot .u8 1 128 = 1 := n128
            obtain ⟨N, hNN⟩ : ∃ N, Hid (v + 1 * 128 ^ 9 = N) := ⟨_, Lib.hid rfl⟩
            have hor : bits .or .u64 (v : Int) 9223372036854775808 = (N : Int) := by
              have h3 : (128 : Nat) ^ 9 = 9223372036854775808 := by decide
              have h4 := hRb.out
              have h5 := hNN.out
              rw [h3] at h4 h5
              have h6 := u64_or_nat v 9223372036854775808 (by omega) (by omega)
              have h7 := Nat.two_pow_add_eq_or_of_lt (i := 63) (b := v) h4 1
              rw [Nat.mul_one, Nat.or_comm] at h7
              rw [← h7] at h6
              rw [← h5, Nat.one_mul, Nat.add_comm v]
              exact h6
            by_cases hmo : most < N
            · have hRn : Hid (R = none) := Lib.hid (by rw [if_pos (Or.inr (by rw [hNN.out]; exact hmo))] at hstep; exact hstep.symm)
              clear hstep
              have t8 : (most : Int) < (N : Int) := by omega
              go_wp2_with fail
              go_quiet (fail)
              go_wp2_with fail
              go_quiet (fail)
              go_wp2_with fail
              refine (hst.out _ _ _).mono ?_
              rintro e w2 ⟨⟨v0, rfl⟩, h2, g2⟩
              have h2' := Lib.hid h2
              have g2' := Lib.hid ((grown_drewN w _ _).trans g2)
              clear h2 g2
              go_wp2_with fail
              go_ret
              have hM0 := hno.out hRn.out
              exact ⟨by rw [hM0]; rfl, by rw [hM0]; exact h2'.out, g2'.out⟩
            · have hRs := Lib.hid (by rw [if_neg (by rw [hNN.out]; intro h; exact h.elim (fun h => by omega) hmo), hNN.out] at hstep; exact hstep.symm)
              clear hstep
              have t8 : (N : Int) ≤ (most : Int) := by omega
              go_wp2_with fail
              go_quiet (fail)
              go_wp2_with fail
              go_quiet (fail)
              go_wp2_with fail
              go_ret
              have hM0 := hyes.out _ _ hRs.out
              have hv := fun q => hmv.out q (k + (9 + 1)) ((k : Int) + 10) (by omega) (by rw [hL.out ()]; omega)
              exact ⟨by rw [hM0]; rfl, by rw [hM0]; exact (hv _).1, (hv _).2⟩
      · have t1 : ((i : Int) == 9) = false := by simp; omega
        have wi1 : IntKind.i64.wrap ((i : Int) + 1) = (i : Int) + 1 := IntWalk.i64_in _ (by omega)
        have wki1 : IntKind.i64.wrap ((k : Int) + ((i : Int) + 1)) = (k : Int) + ((i : Int) + 1) := IntWalk.i64_in _ (by omega)
        rw [if_neg (fun h => h9 h.1)] at hstep
        by_cases h128 : y < 128
        · rw [if_pos h128] at hstep
          have t4 : (y : Int) < 128 := by omega
          by_cases hy0 : y = 0
          · subst hy0
            replace hcel : w.cell? ⟨b, off + (k + i), none⟩ = some (.int .u8 0) := hcel
            replace n128 : bits .andNot .u8 0 128 = 0 := n128
            clear t4
            have hor : bits .or .u64 (v : Int) 0 = (v : Int) := by
              have := u64_or_nat v 0 v64.out (by omega)
              rwa [Nat.or_zero] at this
            by_cases hi0 : 0 < i
            · have hRn : Hid (R = none) := Lib.hid (by rw [if_pos (Or.inl ⟨rfl, hi0⟩)] at hstep; exact hstep.symm)
              clear hstep
              have t6 : (0 : Int) < (i : Int) := by omega
              go_wp2_with fail
              go_quiet (fail)
              go_wp2_with fail
              go_quiet (fail)
              go_wp2_with fail
              refine (hst.out _ _ _).mono ?_
              rintro e w2 ⟨⟨v0, rfl⟩, h2, g2⟩
              have h2' := Lib.hid h2
              have g2' := Lib.hid ((grown_drewN w _ _).trans g2)
              clear h2 g2
              go_wp2_with fail
              go_ret
              have hM0 := hno.out hRn.out
              exact ⟨by rw [hM0]; rfl, by rw [hM0]; exact h2'.out, g2'.out⟩
            · have t6 : (i : Int) ≤ 0 := by omega
              have hNN : Hid (v + 0 * 128 ^ i = v) := Lib.hid (by omega)
              by_cases hmo : most < v
              · have hRn : Hid (R = none) := Lib.hid (by rw [if_pos (Or.inr (by rw [hNN.out]; exact hmo))] at hstep; exact hstep.symm)
                clear hstep
                have t8 : (most : Int) < (v : Int) := by omega
                go_wp2_with fail
                go_quiet (fail)
                go_wp2_with fail
                go_quiet (fail)
                go_wp2_with fail
                refine (hst.out _ _ _).mono ?_
                rintro e w2 ⟨⟨v0, rfl⟩, h2, g2⟩
                have h2' := Lib.hid h2
                have g2' := Lib.hid ((grown_drewN w _ _).trans g2)
                clear h2 g2
                go_wp2_with fail
                go_ret
                have hM0 := hno.out hRn.out
                exact ⟨by rw [hM0]; rfl, by rw [hM0]; exact h2'.out, g2'.out⟩
              · have hRs := Lib.hid (by rw [if_neg (by rw [hNN.out]; intro h; exact h.elim (fun h => hi0 h.2) hmo), hNN.out] at hstep; exact hstep.symm)
                clear hstep
                have t8 : (v : Int) ≤ (most : Int) := by omega
                go_wp2_with fail
                go_quiet (fail)
                go_wp2_with fail
                go_quiet (fail)
                go_wp2_with fail
                go_ret
                have hM0 := hyes.out _ _ hRs.out
                have hv := fun q => hmv.out q (k + (i + 1)) ((k : Int) + ((i : Int) + 1)) (by omega) (by rw [hL.out ()]; omega)
                exact ⟨by rw [hM0]; rfl, by rw [hM0]; exact (hv _).1, (hv _).2⟩
          · have t5 : ((y : Int) == 0) = false := by simp; omega
            obtain ⟨N, hN⟩ : ∃ N, Hid (v + (y % 128) * 128 ^ i = N) := ⟨_, Lib.hid rfl⟩
            have hor : bits .or .u64 (v : Int) (IntKind.u64.wrap ((y : Int) % 128 * 2 ^ (7 * i))) = (N : Int) := var_or hRb.out hi (by
              have h2 : 128 ^ i ≤ 128 ^ 8 := Nat.pow_le_pow_right (by decide) (by omega)
              have h3 : (128 : Nat) ^ 8 = 72057594037927936 := by decide
              have h4 : (y % 128) * 128 ^ i ≤ 127 * 128 ^ i := Nat.mul_le_mul_right _ (by omega)
              omega) hN.out v64.out
            have hNN : Hid (v + y * 128 ^ i = N) := Lib.hid (by rw [← hN.out, Nat.mod_eq_of_lt h128])
            by_cases hmo : most < N
            · have hRn : Hid (R = none) := Lib.hid (by rw [if_pos (Or.inr (by rw [hNN.out]; exact hmo))] at hstep; exact hstep.symm)
              clear hstep
              have t8 : (most : Int) < (N : Int) := by omega
              go_wp2_with fail
              go_quiet (fail)
              go_wp2_with fail
              go_quiet (fail)
              go_wp2_with fail
              refine (hst.out _ _ _).mono ?_
              rintro e w2 ⟨⟨v0, rfl⟩, h2, g2⟩
              have h2' := Lib.hid h2
              have g2' := Lib.hid ((grown_drewN w _ _).trans g2)
              clear h2 g2
              go_wp2_with fail
              go_ret
              have hM0 := hno.out hRn.out
              exact ⟨by rw [hM0]; rfl, by rw [hM0]; exact h2'.out, g2'.out⟩
            · have hRs := Lib.hid (by rw [if_neg (by rw [hNN.out]; intro h; exact h.elim (fun h => hy0 h.1) hmo), hNN.out] at hstep; exact hstep.symm)
              clear hstep
              have t8 : (N : Int) ≤ (most : Int) := by omega
              go_wp2_with fail
              go_quiet (fail)
              go_wp2_with fail
              go_quiet (fail)
              go_wp2_with fail
              go_ret
              have hM0 := hyes.out _ _ hRs.out
              have hv := fun q => hmv.out q (k + (i + 1)) ((k : Int) + ((i : Int) + 1)) (by omega) (by rw [hL.out ()]; omega)
              exact ⟨by rw [hM0]; rfl, by rw [hM0]; exact (hv _).1, (hv _).2⟩
        · rw [if_neg h128] at hstep
          have t4 : (128 : Int) ≤ (y : Int) := by omega
          have t9 : (i : Int) < 9 := by omega
          obtain ⟨N, hN⟩ : ∃ N, Hid (v + (y % 128) * 128 ^ i = N) := ⟨_, Lib.hid rfl⟩
          have hor : bits .or .u64 (v : Int) (IntKind.u64.wrap ((y : Int) % 128 * 2 ^ (7 * i))) = (N : Int) := var_or hRb.out hi (by
            have h2 : 128 ^ i ≤ 128 ^ 8 := Nat.pow_le_pow_right (by decide) (by omega)
            have h3 : (128 : Nat) ^ 8 = 72057594037927936 := by decide
            have h4 : (y % 128) * 128 ^ i ≤ 127 * 128 ^ i := Nat.mul_le_mul_right _ (by omega)
            omega) hN.out v64.out
          have hnx : Hid (varG most (10 - (i + 1)) (i + 1) N (l.drop (k + (i + 1))) = R ∧ N < 128 ^ (i + 1)) := Lib.hid ⟨by
              rw [show 10 - (i + 1) = 9 - i by omega, ← hN.out, show y % 128 = y - 128 by omega]
              exact hstep, by
              rw [← hN.out, Nat.pow_succ]
              have h1 := hRb.out
              have h2 : (y % 128) * 128 ^ i ≤ 127 * 128 ^ i := Nat.mul_le_mul_right _ (by omega)
              omega⟩
          clear hstep
          go_wp2_with fail
          go_quiet (fail)
          go_wp2_with fail
          go_quiet (fail)
          go_wp2_with fail
          go_roundw
          case rel => exact ⟨i + 1, N, _, by omega, by omega, by go_num, rfl, hnx, Lib.hid rfl⟩
          case measure => simp [intOf]; omega
    · have hRn : Hid (R = none) := Lib.hid (by rw [← hR.out.1]; exact varG_end (by rw [hL.out ()]; omega))
      clear hR
      have e1 : ((k : Int) + (i : Int) == (L : Int)) = true := by simp; omega
      go_wp2_with fail
      go_quiet (fail)
      go_wp2_with fail
      refine (hst.out _ _ _).mono ?_
      rintro e w2 ⟨⟨v0, rfl⟩, h2, g2⟩
      have h2' := Lib.hid h2
      have g2' := Lib.hid ((grown_drewN w _ _).trans g2)
      clear h2 g2
      go_wp2_with fail
      go_ret
      have hM0 := hno.out hRn.out
      exact ⟨by rw [hM0]; rfl, by rw [hM0]; exact h2'.out, g2'.out⟩
theorem vard_any {w : World} {g c : Nat} {A : Option Addr} {l : List Nat} {s : DSt} (h : DecS w g A c l s) (most : Nat) (hm : most < 18446744073709551616) :
    Calls Tryd.prog 104 #[.pointer (some ⟨g, 0, none⟩), .int .u64 (most : Int)] w (VarPost w g A c l (varM l most s)) := by
  cases s with
  | some k => exact vard_go h most hm
  | none =>
    have hov := Lib.hid (over_any (s := none) h)
    have h' := Lib.hid h
    clear h
    go_enter Tryd.func104, Tryd.ntmps104
    go_wp2_with (refine hov.out.mono ?_; rintro e w' ⟨rfl, rfl⟩)
    go_ret
    exact ⟨rfl, h'.out, grown_drewN w 0 _⟩
end Go.Proofs.YtkjndgapejbgcaaDoor

namespace Go.Proofs.YtkjndgapejbgcaaDoor
open Go.RowKit
set_option linter.unusedSimpArgs false
set_option linter.unusedVariables false

theorem byt_nil' (w : World) (B : Nat) (A : Option Addr) : Byt w B A [] := fun h => absurd h (by simp)
def TextPost (w : World) (g : Nat) (A : Option Addr) (c : Nat) (l : List Nat) (r : List Nat × DSt) (e : Ending) (w' : World) : Prop :=
  e = .returned (.string (strB r.1)) ∧ DecS w' g A c l r.2 ∧ w.grownBy w' (some g)
set_option maxRecDepth 20000 in
set_option maxHeartbeats 2000000 in
theorem textd_any {w : World} {g c : Nat} {A : Option Addr} {l : List Nat} {s : DSt} (h : DecS w g A c l s) (most : Nat) (hm : most < 4611686018427387904) :
    Calls Tryd.prog 89 #[.pointer (some ⟨g, 0, none⟩), .int .i64 (most : Int)] w (TextPost w g A c l (textM l most s)) := by
  have hov := Lib.hid (over_any h)
  have hvd := Lib.hid (vard_any h most (by omega))
  have hml := varM_most l most s
  have hlt := Lib.hid h.lt
  cases s with
  | none =>
    have h' := Lib.hid h
    clear h hvd hml
    go_enter Tryd.func89, Tryd.ntmps89
    go_wp2_with (refine hov.out.mono ?_; rintro e w' ⟨rfl, rfl⟩)
    go_ret
    exact ⟨rfl, h'.out, grown_drewN w 0 _⟩
  | some k =>
    have c1 := DecAt.c1 h
    have hmx : IntKind.u64.wrap (most : Int) = (most : Int) := by rw [IntKind.wrap_u64]; omega
    have hmx2 : max (0 : Int) (most : Int) = (most : Int) := by omega
    obtain ⟨n, s1, hv⟩ : ∃ n s1, Hid (varM l most (some k) = (n, s1)) := ⟨_, _, Lib.hid rfl⟩
    rw [hv.out] at hvd hml
    simp only at hml
    have htx : Hid (textM l most (some k) = rawM l n s1) := Lib.hid (by unfold textM; rw [hv.out])
    obtain ⟨RR, hRR⟩ : ∃ R, Hid (∀ _ : Unit, rawM l n s1 = R) := ⟨_, Lib.hid fun _ => rfl⟩
    rw [htx.out, hRR.out ()]
    have hwn : IntKind.i64.wrap (n : Int) = (n : Int) := IntWalk.i64_in _ (by omega)
    clear h
    go_enter Tryd.func89, Tryd.ntmps89
    go_wp2_with (refine hov.out.mono ?_; rintro e w' ⟨rfl, rfl⟩)
    clear hov
    refine hvd.out.mono ?_
    rintro e w2 ⟨rfl, h2, g2⟩
    have h2' := Lib.hid h2
    have g2' := Lib.hid g2
    have hov2 := Lib.hid (over_any h2)
    clear h2 g2 hvd
    cases s1 with
    | none =>
      go_wp2_with (refine hov2.out.mono ?_; rintro e w' ⟨rfl, rfl⟩)
      go_ret
      rw [← hRR.out ()]
      exact ⟨rfl, h2'.out, g2'.out⟩
    | some k1 =>
      by_cases hn : n ≤ l.length - k1
      · have hr : Hid (rawM l n (some k1) = ((l.drop k1).take n, some (k1 + n))) := Lib.hid (by simp [rawM, hn])
        obtain ⟨x, hx⟩ : ∃ x, Hid (∀ _ : Unit, (l.drop k1).take n = x) := ⟨_, Lib.hid fun _ => rfl⟩
        have hxl : Hid (x.length = n) := Lib.hid (by rw [← hx.out (), List.length_take, List.length_drop]; omega)
        have hx256 : Hid (∀ y ∈ x, y < 256) := Lib.hid fun y hy => hlt.out y (by rw [← hx.out ()] at hy; exact List.mem_of_mem_drop (List.mem_of_mem_take hy))
        have hnx := Lib.hid (fun z => next_ok h2'.out n hn z)
        clear hn
        go_wp2_with (first
          | (refine hov2.out.mono ?_; rintro e w' ⟨rfl, rfl⟩)
          | (go_at_call 75
             refine (hnx.out _).mono ?_
             rintro e w3 ⟨⟨A2, c2, rfl, hb, _⟩, h3, g3⟩
             rw [hx.out ()] at hb
             have hcv := conv_bytes w3 x A2 c2 _ hb hx256.out
             rw [hxl.out] at hcv
             have h3' := Lib.hid h3
             have g3' := Lib.hid (g2'.out.trans g3)
             clear hb h3 g3))
        go_ret
        rw [← hRR.out (), hr.out, hx.out ()]
        exact ⟨rfl, h3'.out, g3'.out⟩
      · have hr : Hid (rawM l n (some k1) = ([], none)) := Lib.hid (by simp [rawM, hn])
        have hnx := Lib.hid (fun z => next_no h2'.out n (by omega) (by omega) z)
        clear hn
        go_wp2_with (first
          | (refine hov2.out.mono ?_; rintro e w' ⟨rfl, rfl⟩)
          | (go_at_call 75
             refine (hnx.out _).mono ?_
             rintro e w3 ⟨rfl, h3, g3⟩
             have hcv := conv_bytes w3 [] none 0 0 (byt_nil' _ _ _) (by simp)
             rw [List.length_nil] at hcv
             have h3' := Lib.hid h3
             have g3' := Lib.hid (g2'.out.trans g3)
             clear h3 g3))
        go_ret
        rw [← hRR.out (), hr.out]
        exact ⟨rfl, h3'.out, g3'.out⟩

/-- A key. -/
def keyM (l : List Nat) (s : DSt) : Key32 × DSt := if h : (rawM l 32 s).1.length = 32 then (⟨(rawM l 32 s).1, h⟩, (rawM l 32 s).2) else (zK, (rawM l 32 s).2)
def KeyPost (w : World) (g : Nat) (A : Option Addr) (c : Nat) (l : List Nat) (r : Key32 × DSt) (e : Ending) (w' : World) : Prop :=
  e = .returned (.agg (encK r.1).toArray) ∧ DecS w' g A c l r.2 ∧ w.grownBy w' (some g)
theorem arrayAt32 (a : Addr) (c : Nat) (w : World) : (Instr.arrayAt 28 (.slice (some a) 32 c)).run Tryd.prog w = .ok (.pointer (some a)) w := by
  have h : Tryd.prog.underlying 28 = some (.array 32 5) := Tryd.underlying28
  simp [Instr.arrayAt, run_underlying h]
theorem eql_nilB (A : Option Addr) (n c : Nat) (w : World) : (binOp .eql 24 (.slice A n c) (.slice none 0 0)).run Tryd.prog w = .ok (.bool A.isNone) w := Lib.run_eql_slice_nil w _ _ _ _ _ _ _ Tryd.underlying24
set_option maxRecDepth 20000 in
set_option maxHeartbeats 2000000 in
theorem keyd_any {w : World} {g c : Nat} {A : Option Addr} {l : List Nat} {s : DSt} (h : DecS w g A c l s) :
    Calls Tryd.prog 86 #[.pointer (some ⟨g, 0, none⟩)] w (KeyPost w g A c l (keyM l s)) := by
  have hzk := zeroKey
  have hi32 : (Tryd.prog.info? 28).map (·.size) = some 32 := by kernel_rfl
  have hi32' := Lib.hid hi32
  have h32' := Lib.hid (fun x : Key32 => show (encK x).toArray.size = 32 by simp [encK_length])
  have hl32 := Lib.hid (fun x : Key32 => encK_length x)
  have honk' := Lib.hid (fun x : Key32 => show (encK x).toArray.all (·.oneCell') = true from all_oneCell_toArray (encK_one x))
  have hb : Below w.heap.size w (w.alloc (.cells (encK zK).toArray 28)) := (Below.refl _ _).alloc (Nat.le_refl _) _
  have h1 := Lib.hid (h.keep hb)
  have hw1 := Lib.hid (grown_below' (r := some g) hb)
  have hK1 : Hid ((w.alloc (.cells (encK zK).toArray 28)).heap[w.heap.size]? = some (.cells (encK zK).toArray 28 (0, 0))) := Lib.hid (heap_alloc_new w _)
  have hgl := Lib.hid h.gl
  have hab := Lib.hid h.ab
  have hrw := Lib.hid (rawd_any h1.out 32 (by decide))
  obtain ⟨x, s1, hr⟩ : ∃ x s1, Hid (rawM l 32 s = (x, s1)) := ⟨_, _, Lib.hid rfl⟩
  have hkm : Hid (keyM l s = if h : x.length = 32 then (⟨x, h⟩, s1) else (zK, s1)) := Lib.hid (by
    have : ∀ (r : List Nat × DSt), r = (x, s1) → (if h : r.1.length = 32 then ((⟨r.1, h⟩ : Key32), r.2) else (zK, r.2)) = if h : x.length = 32 then (⟨x, h⟩, s1) else (zK, s1) := fun r hr => by subst hr; rfl
    exact this _ hr.out)
  have hxl : Hid (x.length = 32 ∨ x = []) := Lib.hid (by
    have h0 := hr.out
    unfold rawM at h0
    split at h0
    · simp only [Prod.mk.injEq] at h0; exact .inr h0.1.symm
    · split at h0
      · simp only [Prod.mk.injEq] at h0
        left
        rw [← h0.1, List.length_take, List.length_drop]
        omega
      · simp only [Prod.mk.injEq] at h0; exact .inr h0.1.symm)
  obtain ⟨RR, hRR⟩ : ∃ R, Hid (∀ _ : Unit, keyM l s = R) := ⟨_, Lib.hid fun _ => rfl⟩
  rw [hRR.out ()]
  rw [hr.out] at hrw
  clear h hb hi32
  have hA0 : Hid (blockOf A ≠ some w.heap.size) := Lib.hid fun e => by have := hab.out _ e; omega
  have fin : Hid (∀ (w2 : World) (s1 : DSt) (X : Key32) (cs : Array Value), DecS w2 g A c l s1 → w.grownBy w2 (some g) → w2.heap[w.heap.size]? = some (.cells cs 28 (0, 0)) →
      DecS (w2.setRow w.heap.size (encK X).toArray) g A c l s1 ∧ w.grownBy (w2.setRow w.heap.size (encK X).toArray) (some g)) := Lib.hid fun w2 s1 X cs h2 g2 hN =>
    ⟨h2.other hN (by decide) hA0.out, ⟨g2.os, g2.tape, g2.output, by simpa using g2.size, fun j hj hne => (setRow_other w2 w.heap.size j _ (by omega)).trans (g2.block j hj hne)⟩⟩
  rcases hxl.out with hx | hx
  · have hxx := Lib.hid hx
    obtain ⟨X, hX⟩ : ∃ X : Key32, Hid (∀ _ : Unit, X.1 = x) := ⟨⟨x, hx⟩, Lib.hid fun _ => rfl⟩
    have hXv : Hid (encK X = u8s x) := Lib.hid (by unfold encK; rw [hX.out ()])
    have hfin : Hid (keyM l s = (X, s1)) := Lib.hid (by rw [hkm.out, dif_pos hx]; congr 1; exact Subtype.ext (hX.out ()).symm)
    simp only [hx] at hrw
    clear hx
    go_enter Tryd.func86, Tryd.ntmps86
    go_wp2_with fail
    refine hrw.out.mono ?_
    rintro e w2 ⟨⟨A2, c2, rfl, o2, _⟩, h2, g2⟩
    obtain ⟨b2, rfl⟩ := o2.head (by decide)
    have hq := eql_nilB (some ⟨b2, 0, none⟩) 32 c2
    have harr := arrayAt32 ⟨b2, 0, none⟩ c2
    have hrg : Hid (w2.rangeAt b2 0 (encK X)) := Lib.hid fun j v hv => by
      rw [hXv.out] at hv
      have hj : j < 32 := by
        have := (List.getElem?_eq_some_iff.1 hv).1
        rwa [u8s_length, hxx.out] at this
      rw [Nat.zero_add, o2.cell j (by omega)]
      exact hv
    have h2' := Lib.hid h2
    have g2' := Lib.hid (hw1.out.trans g2)
    have hK2 := Lib.hid ((g2.block w.heap.size (by simp) (fun e => by have := hgl.out; injection e with e; omega)).trans hK1.out)
    clear o2 h2 g2
    go_wp2_with (first
      | (refine wpList_load_mid rfl 28 _ rfl b2 0 rfl (encK X) _ hrg.out Tryd.underlying28 rfl (by rw [hl32.out]; exact hi32'.out) ?_)
      | (refine wpList_store_row rfl 28 _ _ rfl w.heap.size (encK X).toArray rfl rfl 28 _ hK2.out (by rw [h32'.out]; exact hi32'.out) (by rw [h32'.out, h32'.out]) (honk'.out _) ?_))
    have hres := setRow_heap w2 w.heap.size _ (encK X).toArray 28 _ hK2.out
    have hf := fin.out w2 s1 X _ h2'.out g2'.out hK2.out
    refine bodyPost_ret (results_cell_row rfl _ _ w.heap.size 28 _ (0, 0) _ rfl hres Tryd.underlying28 rfl (by rw [h32'.out]; exact hi32'.out)) rfl ?_
    rw [← hRR.out (), hfin.out]
    exact ⟨rfl, hf.1, hf.2⟩
  · have hfin : Hid (keyM l s = (zK, s1)) := Lib.hid (by rw [hkm.out, dif_neg (by rw [hx]; decide)])
    subst hx
    go_enter Tryd.func86, Tryd.ntmps86
    go_wp2_with fail
    refine hrw.out.mono ?_
    rintro e w2 ⟨⟨A2, c2, rfl, o2, hA2⟩, h2, g2⟩
    obtain rfl := hA2 (by first | rfl | trivial)
    have hq := eql_nilB none 0 c2
    clear hA2
    have h2' := Lib.hid h2
    have g2' := Lib.hid (hw1.out.trans g2)
    have hK2 := Lib.hid ((g2.block w.heap.size (by simp) (fun e => by have := hgl.out; injection e with e; omega)).trans hK1.out)
    clear o2 h2 g2
    go_wp2_with (first
      | (refine wpList_built rfl 28 _ #[] rfl (by simp) _ (buildKz _) ?_)
      | (refine wpList_store_row rfl 28 _ _ rfl w.heap.size (encK zK).toArray rfl rfl 28 _ hK2.out (by rw [h32'.out]; exact hi32'.out) (by rw [h32'.out]) (honk'.out _) ?_))
    have hres := setRow_heap w2 w.heap.size _ (encK zK).toArray 28 _ hK2.out
    have hf := fin.out w2 s1 zK _ h2'.out g2'.out hK2.out
    refine bodyPost_ret (results_cell_row rfl _ _ w.heap.size 28 _ (0, 0) _ rfl hres Tryd.underlying28 rfl (by rw [h32'.out]; exact hi32'.out)) rfl ?_
    rw [← hRR.out (), hfin.out]
    exact ⟨rfl, hf.1, hf.2⟩
end Go.Proofs.YtkjndgapejbgcaaDoor
