/- The document's Bytes. -/
import Derived.Test.YtlghgfnkckaebaaWRf3
import Derived.Test.YtlghgfnkckaebaaWByt
namespace Go.Proofs.Ytlghgfnkckaebaa
open Go.RowKit
set_option linter.unusedSimpArgs false
set_option linter.unusedVariables false

theorem fixF_at : ∀ (n k x : Nat), k < n → (fixF n x)[k]? = some (x / 256 ^ k % 256)
  | n + 1, 0, x, _ => by simp [fixF]
  | n + 1, k + 1, x, h => by
    rw [fixF, List.getElem?_cons_succ, fixF_at n k (x / 256) (by omega), Nat.pow_succ, Nat.mul_comm, Nat.div_div_eq_div_mul]
theorem flat_at : ∀ (l : List Nat) (t : Nat), t < 8 * l.length → (l.flatMap (fixF 8))[t]? = some (l[t / 8]?.getD 0 / 256 ^ (t % 8) % 256)
  | x :: l, t, h => by
    rw [List.flatMap_cons]
    rcases Nat.lt_or_ge t 8 with h8 | h8
    · rw [List.getElem?_append_left (by rw [fixF_length]; exact h8), fixF_at 8 t x h8, show t / 8 = 0 by omega, show t % 8 = t by omega]
      rfl
    · rw [List.getElem?_append_right (by rw [fixF_length]; exact h8), fixF_length, flat_at l (t - 8) (by simp at h; omega), show t / 8 = (t - 8) / 8 + 1 by omega, show t % 8 = (t - 8) % 8 by omega]
      rfl
/-- The byte number t of a filter's words. -/
def byQ (l : List Nat) (t : Nat) : Nat := l[t / 8]?.getD 0 / 256 ^ (t % 8)
theorem bit_by (l : List Nat) (t j : Nat) (hj : j < 8) : bitAt l (8 * t + j) = (byQ l t).testBit j := by
  rw [bitAt_eq, show (8 * t + j) / 64 = t / 8 by omega, show (8 * t + j) % 64 = j + 8 * (t % 8) by omega]
  unfold byQ
  rw [show (256 : Nat) = 2 ^ 8 by decide, ← Nat.pow_mul, Nat.testBit_div_two_pow]
theorem mod_step (y j : Nat) : y % 2 ^ (j + 1) = y % 2 ^ j + (if y.testBit j then 2 ^ j else 0) := by
  rw [Nat.mod_pow_succ, Nat.testBit_eq_decide_div_mod_eq]
  have : y / 2 ^ j % 2 < 2 := Nat.mod_lt _ (by decide)
  by_cases h : y / 2 ^ j % 2 = 1
  · simp [h]
  · have h0 : y / 2 ^ j % 2 = 0 := by omega
    simp [h0]
def hdQ (h n : Nat) : List Nat := [h, n % 256, n / 256]
theorem hdQ_eq (h n : Nat) (hh : h < 256) (hn : n < 65536) : hdQ h n = fixF 1 h ++ fixF 2 n := by
  unfold hdQ
  simp only [fixF, List.cons_append, List.nil_append]
  rw [Nat.mod_eq_of_lt hh, Nat.mod_eq_of_lt (show n / 256 < 256 by omega)]
set_option maxRecDepth 20000 in
set_option maxHeartbeats 2000000 in
theorem rbytes_any {w : World} {B g a0 c h : Nat} {l : List Nat} (f : RF w B g a0 c l h) : Calls Try.prog 67 #[.pointer (some ⟨g, 0, none⟩)] w (FByP w (fBy h l)) := by
  have n1 := f.n1
  have nm := f.nm
  have c0 := f.c0
  have c1 := f.c1
  have h16 := RFlt.h16 f
  have ff := Lib.hid f
  obtain ⟨n, hn⟩ : ∃ n, l.length = n := ⟨_, rfl⟩
  rw [hn] at c0 n1 nm
  have hn' := Lib.hid hn
  obtain ⟨N, hN⟩ : ∃ N, 64 * n = N := ⟨_, rfl⟩
  rw [hN] at c0
  have hN' := Lib.hid hN
  have hN2 : N ≤ 1048576 := by omega
  have hhd : Hid (fBy h l = hdQ h n ++ l.flatMap (fixF 8)) := Lib.hid (by unfold fBy; rw [hdQ_eq h n (by omega) (by omega), hn])
  obtain ⟨LL, hLL⟩ : ∃ LL, Hid ((fBy h l).length = LL) := ⟨_, Lib.hid rfl⟩
  have hLn : LL = 3 + 8 * n := by rw [← hLL.out, fBy_length, hn]
  unfold FByP
  rw [hLL.out]
  have q1 : (N : Int).tdiv 64 = (n : Int) := by rw [Int.tdiv_eq_ediv_of_nonneg (by omega)]; omega
  obtain ⟨r, hr⟩ : ∃ r, n % 256 = r := ⟨_, rfl⟩
  obtain ⟨s, hs⟩ : ∃ s, n / 256 = s := ⟨_, rfl⟩
  have q2 : (n : Int).tmod 256 = (r : Int) := by rw [Int.tmod_eq_emod_of_nonneg (by omega)]; omega
  have q3 : (n : Int).tdiv 256 = (s : Int) := by rw [Int.tdiv_eq_ediv_of_nonneg (by omega)]; omega
  have q2' : (n : Int) % 256 = (r : Int) := by omega
  have w1 : IntKind.u8.wrap (h : Int) = (h : Int) := by rw [IntKind.wrap_u8]; omega
  have w2 : IntKind.u8.wrap (r : Int) = (r : Int) := by rw [IntKind.wrap_u8]; omega
  have w3 : IntKind.u8.wrap (s : Int) = (s : Int) := by rw [IntKind.wrap_u8]; omega
  have w1' : (h : Int) % 256 = (h : Int) := by omega
  have w2' : (r : Int) % 256 = (r : Int) := by omega
  have w3' : (s : Int) % 256 = (s : Int) := by omega
  have hrs : Hid (hdQ h n = [h, r, s]) := Lib.hid (by unfold hdQ; rw [hr, hs])
  have ho0 : Hid (Own (w.alloc (.cells #[.int .u8 (h : Int), .int .u8 (r : Int), .int .u8 (s : Int)] 5)) w.heap.size 5 1 (some ⟨w.heap.size, 0, none⟩) 3 3 (u8s [h, r, s])) := Lib.hid (Own.lit w w.heap.size 5 1 3 #[.int .u8 (h : Int), .int .u8 (r : Int), .int .u8 (s : Int)] rfl (by decide) (Nat.le_refl _))
  have hb0 : Hid (Below w.heap.size w (w.alloc (.cells #[.int .u8 (h : Int), .int .u8 (r : Int), .int .u8 (s : Int)] 5))) := Lib.hid ((Below.refl _ _).alloc (Nat.le_refl _) _)
  clear f hn hN hr hs
  go_enter Try.func67, Try.ntmps67
  go_wp2_with fail
  clear c0 c1 q1 q2 q3 q2' w1 w2 w3 w1' w2' w3'
  go_loopw [4, 5] (fun ov iv wr => ∃ (t k N2 : Nat) (A' : Option Addr) (c' : Nat), Hid (k = 8 * t) ∧ k ≤ N ∧ Hid (N2 = 3 + t) ∧ ov = .slice A' N2 c' ∧ iv = .int .i64 (k : Int) ∧ Hid (Own wr w.heap.size 5 1 A' N2 c' (u8s (hdQ h n ++ (l.flatMap (fixF 8)).take t))) ∧ Hid (Below w.heap.size w wr)) (fun _ iv _ => N - (intOf iv).toNat)
  case atStart => exact ⟨0, 0, 3, _, 3, Lib.hid rfl, by omega, Lib.hid rfl, rfl, rfl, Lib.hid (by rw [hrs.out]; exact ho0.out), hb0⟩
  case round =>
    clear ho0 hb0
    obtain ⟨t, k, N2, A', c', hkt, hkN, hN2t, rfl, rfl, ho, hbel⟩ := hrel
    have fr := Lib.hid (ff.out.below hbel.out)
    have c0 := fr.out.c0
    rw [hn'.out, hN'.out] at c0
    have hN2b : N2 ≤ 1048579 := by have := hkt.out; have := hN2t.out; omega
    by_cases hlt : k < N
    · have hsz : Hid (w.heap.size ≤ wr.heap.size) := Lib.hid hbel.out.size
      obtain ⟨y, hy⟩ : ∃ y, Hid (byQ l t = y) := ⟨_, Lib.hid rfl⟩
      have hbits : Hid (∀ j, j < 8 → wr.cell? ⟨a0, k + j, none⟩ = some (.bool (y.testBit j))) := Lib.hid fun j hj => by
        have hN3 := hN'.out
        have := fr.out.bit (k + j) (by rw [hn'.out]; have := hkt.out; omega)
        rw [hkt.out, bit_by l t j hj, hy.out] at this
        rw [hkt.out]
        exact this
      have hnext : Hid (u8s (hdQ h n ++ (l.flatMap (fixF 8)).take t) ++ [.int .u8 ((y % 2 ^ 8 : Nat) : Int)] = u8s (hdQ h n ++ (l.flatMap (fixF 8)).take (t + 1))) := Lib.hid (by
        have hN3 := hN'.out
        rw [List.take_add_one, flat_at l t (by rw [hn'.out]; have := hkt.out; omega), show l[t / 8]?.getD 0 / 256 ^ (t % 8) = byQ l t from rfl, hy.out]
        simp [u8s])
      clear fr
      go_wp2_with fail
      go_loopw [6, 7, 8] (fun vv pv jv wq => ∃ (j v p : Nat), j ≤ 8 ∧ vv = .int .u8 (v : Int) ∧ pv = .int .u8 (p : Int) ∧ jv = .int .i64 (j : Int) ∧ Hid (y % 2 ^ j = v) ∧ Hid (2 ^ j % 256 = p) ∧ wq = wr) (fun _ _ jv _ => 8 - (intOf jv).toNat)
      case atStart => exact ⟨0, 0, 1, by omega, rfl, rfl, rfl, Lib.hid (by rw [Nat.pow_zero, Nat.mod_one]), Lib.hid (by decide), rfl⟩
      case round =>
        obtain ⟨j, v, p, hj, rfl, rfl, rfl, hv, hp, rfl⟩ := hrel
        by_cases hlt2 : j < 8
        · have cb := hbits.out j hlt2
          obtain ⟨tb, htb⟩ : ∃ tb, y.testBit j = tb := ⟨_, rfl⟩
          rw [htb] at cb
          have hv1 : Hid (y % 2 ^ (j + 1) = v + (if tb then 2 ^ j else 0)) := Lib.hid (by rw [mod_step, hv.out, htb])
          have hp2 : Hid (2 ^ j = p) := Lib.hid (by
            rw [← hp.out, Nat.mod_eq_of_lt]
            exact Nat.lt_of_le_of_lt (Nat.pow_le_pow_right (by decide) (show j ≤ 7 by omega)) (by decide))
          have hp128 : p ≤ 128 := by
            rw [← hp2.out]
            exact Nat.le_trans (Nat.pow_le_pow_right (by decide) (show j ≤ 7 by omega)) (by decide)
          have hvp : v < p := by
            rw [← hv.out, ← hp2.out]
            exact Nat.mod_lt _ (Nat.two_pow_pos _)
          have hpn : Hid (2 ^ (j + 1) % 256 = p * 2 % 256) := Lib.hid (by rw [Nat.pow_succ, hp2.out])
          have hin : (k : Int) + (j : Int) = ((k + j : Nat) : Int) := by simp
          have hin2 : k + j < N := by have := hN'.out; have := hkt.out; omega
          obtain ⟨kj, hkj⟩ : ∃ kj, k + j = kj := ⟨_, rfl⟩
          rw [hkj] at cb hin hin2
          obtain ⟨pp, hpp⟩ : ∃ pp, p * 2 % 256 = pp := ⟨_, rfl⟩
          rw [hpp] at hpn
          have hpw : IntKind.u8.wrap ((p : Int) * 2) = (pp : Int) := by rw [IntKind.wrap_u8]; omega
          have hpw2 : ((p : Int) * 2) % 256 = (pp : Int) := by omega
          clear htb hv hp hkj hpp
          cases tb with
          | true =>
            go_wp2_with fail
            go_roundw
            case rel => exact ⟨j + 1, v + p, pp, by omega, by go_num, rfl, by go_num, Lib.hid (by rw [hv1.out, hp2.out]; rfl), hpn, trivial⟩
            case measure => simp [intOf]; omega
          | false =>
            go_wp2_with fail
            go_roundw
            case rel => exact ⟨j + 1, v, pp, by omega, rfl, rfl, by go_num, Lib.hid (by rw [hv1.out]; rfl), hpn, trivial⟩
            case measure => simp [intOf]; omega
        · have hj8 : Hid (j = 8) := Lib.hid (by omega)
          have hv8 : Hid (y % 2 ^ 8 = v) := Lib.hid (by rw [← hv.out, hj8.out])
          clear hv hp hj8
          go_wp2_with (first | (at_builtin; refine wpList_app1 elB _ #[_] rfl rfl _ _ rfl rfl ho.out rfl (by intro z hz; simp at hz; subst hz; rfl) (by unfold maxLen; omega) (by omega) hsz.out (N2 + 1) (by omega) (u8s (hdQ h n ++ (l.flatMap (fixF 8)).take (t + 1))) (by rw [← hnext.out, hv8.out]) ?_; intro A7 c7 w7 o7 at7 b7; have o7' := Lib.hid o7; have b7' := Lib.hid (hbel.out.trans b7); clear o7 at7 b7))
          go_roundw
          case rel => exact ⟨t + 1, k + 8, N2 + 1, A7, c7, Lib.hid (by have := hkt.out; omega), by have := hN'.out; have := hkt.out; omega, Lib.hid (by have := hN2t.out; omega), rfl, by go_num, o7', b7'⟩
          case measure => simp [intOf]; omega
    · have hfin : Hid (Own wr w.heap.size 5 1 A' N2 c' (u8s (fBy h l)) ∧ N2 = LL) := Lib.hid (by
        have hN3 := hN'.out
        have := ho.out
        rw [List.take_of_length_le (by rw [flat8_length, hn'.out]; have := hkt.out; omega), ← hhd.out] at this
        exact ⟨this, by have := hN2t.out; have := hkt.out; omega⟩)
      clear fr ho
      go_wp2_with fail
      go_ret
      refine ⟨⟨A', c', ?_, ?_⟩, hbel.out⟩
      · rw [← hfin.out.2]; rfl
      · rw [← hfin.out.2]; exact hfin.out.1
end Go.Proofs.Ytlghgfnkckaebaa
