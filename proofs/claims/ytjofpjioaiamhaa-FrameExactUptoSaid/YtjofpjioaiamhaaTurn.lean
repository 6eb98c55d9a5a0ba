/- What a record with other bytes is read as: plain facts. -/
import Derived.Test.YtjofpjioaiamhaaUnpack
import Derived.Test.YtjofpjioaiamhaaSums
namespace Go.Proofs.Ytjofpjioaiamhaa

namespace Crc
theorem lfn_add (n : Nat) : ∀ (m x : Nat), lfn (n + m) x = lfn m (lfn n x) := by
  induction n with
  | zero => intro m x; simp [lfn]
  | succ n ih =>
    intro m x
    rw [Nat.add_right_comm]
    exact ih m (lf x)
def pack : List Nat → Nat
  | [] => 0
  | b :: l => b ^^^ 256 * pack l
theorem run_pack : ∀ (l : List Nat) (r : Nat), run r l = lfn (8 * l.length) (r ^^^ pack l) := by
  intro l
  induction l with
  | nil => intro r; simp [run, pack, lfn]
  | cons b l ih =>
    intro r
    have h1 : run r (b :: l) = run (step r b) l := rfl
    rw [h1, ih]
    have h2 : step r b ^^^ pack l = lfn 8 (r ^^^ pack (b :: l)) := by
      unfold step
      have h3 : pack l = lfn 8 (256 * pack l) := (lfn_shift 8 (pack l)).symm
      rw [pack, ← Nat.xor_assoc, lfn_xor 8 (r ^^^ b), ← h3]
    rw [h2, ← lfn_add]
    simp only [List.length_cons]
    congr 1
    omega
theorem pack_lt : ∀ (l : List Nat), (∀ b ∈ l, b < 256) → pack l < 256 ^ l.length := by
  intro l
  induction l with
  | nil => intro _; simp [pack]
  | cons b l ih =>
    intro h
    have h1 := ih fun c hc => h c (by simp [hc])
    have hb : b < 256 := h b (by simp)
    have e : (256 : Nat) ^ (b :: l).length = 2 ^ (8 * (l.length + 1)) := by rw [Nat.pow_mul]; rfl
    rw [e, pack]
    refine Nat.xor_lt_two_pow ?_ ?_
    · exact Nat.lt_of_lt_of_le hb (Nat.le_trans (by decide : 256 ≤ 2 ^ 8) (Nat.pow_le_pow_right (by decide) (by omega)))
    · have : 256 ^ l.length * 256 = 2 ^ (8 * (l.length + 1)) := by rw [Nat.pow_mul, Nat.pow_succ]
      omega
theorem pack_inj : ∀ (l m : List Nat), l.length = m.length → (∀ b ∈ l, b < 256) → (∀ b ∈ m, b < 256) → pack l = pack m → l = m := by
  intro l
  induction l with
  | nil =>
    intro m hl _ _ _
    exact (List.eq_nil_of_length_eq_zero hl.symm).symm
  | cons b l ih =>
    intro m hl h1 h2 he
    cases m with
    | nil => simp at hl
    | cons c m =>
      have hb : b < 256 := h1 b (by simp)
      have hc : c < 256 := h2 c (by simp)
      simp only [pack] at he
      have split : ∀ x y : Nat, x < 256 → x ^^^ 256 * y = x + 256 * y := fun x y hx => by
        have e1 := Nat.two_pow_add_eq_or_of_lt (i := 8) hx y
        have e2 : x ^^^ 256 * y = 256 * y + x := by
          have e3 := split_low (256 * y + x)
          have e4 : (256 * y + x) / 256 = y := by omega
          have e5 : (256 * y + x) % 256 = x := by omega
          rw [e4, e5] at e3
          rw [Nat.xor_comm]
          exact e3.symm
        omega
      rw [split b _ hb, split c _ hc] at he
      have e1 : b = c := by omega
      have e2 : pack l = pack m := by omega
      rw [e1, ih m (by simpa using hl) (fun x hx => h1 x (by simp [hx])) (fun x hx => h2 x (by simp [hx])) e2]
/-- Up to four bytes beside one another: another sum. -/
theorem more_burst {s : Nat} {a x y z : List Nat} (ha : ∀ b ∈ a, b < 256) (hx : ∀ b ∈ x, b < 256) (hy : ∀ b ∈ y, b < 256) (hz : ∀ b ∈ z, b < 256) (hl : x.length = y.length) (h4 : x.length ≤ 4)
    (h : more s (a ++ x ++ z) = more s (a ++ y ++ z)) : x = y := by
  unfold more at h
  have hr : run (flip s) a < 4294967296 := run_lt (flip_lt _) ha
  have e : ∀ d, run (flip s) (a ++ d ++ z) = run (run (run (flip s) a) d) z := fun d => by rw [run_append, run_append]
  rw [e, e] at h
  have h1 := flip_inj (run_lt (run_lt hr hx) hz) (run_lt (run_lt hr hy) hz) h
  have h2 := run_inj (run_lt hr hx) (run_lt hr hy) hz h1
  rw [run_pack x, run_pack y, hl] at h2
  have lt : ∀ d : List Nat, (∀ b ∈ d, b < 256) → d.length ≤ 4 → pack d < 4294967296 := fun d hd h4 =>
    Nat.lt_of_lt_of_le (pack_lt d hd) (Nat.le_trans (Nat.pow_le_pow_right (by decide) h4) (by decide))
  have h3 := lfn_inj _ (Nat.xor_lt_two_pow (n := 32) hr (lt x hx h4)) (Nat.xor_lt_two_pow (n := 32) hr (lt y hy (by omega))) h2
  exact pack_inj x y hl hx hy (xor_cancel_left h3)
end Crc

theorem unpF_err {m : List Nat} (h : (unpF m).1 ≠ 0) : (unpF m).2 = (0, []) := by
  unfold unpF at h ⊢
  split
  · rfl
  · split
    · rfl
    · split
      · rfl
      · split
        · rfl
        · rename_i h1 h2 h3 h4
          rw [if_neg h1, if_neg h2, if_neg h3, if_neg h4] at h
          exact absurd rfl h
/-- What a good record is. -/
theorem unpF_ok {m : List Nat} (h : (unpF m).1 = 0) : 10 ≤ m.length ∧ getN m ≤ 65526 ∧ m.take 6 = headL (getN m) ∧ 10 + getN m ≤ m.length ∧ Crc.more 0 (m.take 6 ++ (m.drop 10).take (getN m)) = getS m := by
  unfold unpF at h
  split at h
  · cases h
  · split at h
    · cases h
    · split at h
      · cases h
      · split at h
        · cases h
        · rename_i h1 h2 h3 h4
          exact ⟨by omega, by rw [not_or] at h2; omega, by rw [not_or] at h2; exact Classical.not_not.1 h2.2, by omega, Classical.not_not.1 h4⟩
theorem unpF_of {m : List Nat} (h1 : 10 ≤ m.length) (h2 : getN m ≤ 65526) (h3 : m.take 6 = headL (getN m)) (h4 : 10 + getN m ≤ m.length) (h5 : Crc.more 0 (m.take 6 ++ (m.drop 10).take (getN m)) = getS m) :
    unpF m = (0, 10 + getN m, (m.drop 10).take (getN m)) := by
  unfold unpF
  rw [if_neg (by omega), if_neg (by rw [not_or]; exact ⟨by omega, Classical.not_not.2 h3⟩), if_neg (by omega), if_neg (Classical.not_not.2 h5)]

theorem recL_form (l z : List Nat) : recL l ++ z = headL l.length ++ (sum4 (recSum l) ++ (l ++ z)) := by simp [recL]
theorem recL_length (l : List Nat) : (recL l).length = l.length + 10 := by simp [recL, headL, sum4]
theorem recL_bytes {l : List Nat} (hl : ∀ b ∈ l, b < 256) (hn : l.length ≤ 65526) : ∀ b ∈ recL l, b < 256 := by
  intro b hb
  rw [recL, List.mem_append, List.mem_append] at hb
  rcases hb with (hb | hb) | hb
  · exact headL_bytes (by omega) b hb
  · exact sum4_bytes (Crc.more_lt _ _) b hb
  · exact hl b hb
/-- A record is read, whatever lies behind. -/
theorem unpF_rec (l z : List Nat) (hn : l.length ≤ 65526) : unpF (recL l ++ z) = (0, l.length + 10, l) := by
  have hs : recSum l < 4294967296 := Crc.more_lt _ _
  have hN : getN (recL l ++ z) = l.length := by
    rw [recL_form]
    simp [getN, headL]
    omega
  have h6 : (recL l ++ z).take 6 = headL l.length := by rw [recL_form]; rfl
  have h10 : (recL l ++ z).drop 10 = l ++ z := by rw [recL_form]; rfl
  have hS : getS (recL l ++ z) = recSum l := by
    rw [recL_form]
    simp [getS, headL, sum4]
    omega
  have hb : ((recL l ++ z).drop 10).take (getN (recL l ++ z)) = l := by rw [h10, hN]; exact List.take_left' rfl
  have hlen : (recL l ++ z).length = l.length + 10 + z.length := by rw [List.length_append, recL_length]
  have := unpF_of (m := recL l ++ z) (by omega) (by omega) (by rw [h6, hN]) (by omega) (by rw [hb, h6, hS]; rfl)
  rw [this, hb, hN, Nat.add_comm]

theorem cons_ok {a0 a1 a2 a3 a4 a5 a6 a7 a8 a9 : Nat} {t : List Nat} (h : (unpF (a0 :: a1 :: a2 :: a3 :: a4 :: a5 :: a6 :: a7 :: a8 :: a9 :: t)).1 = 0) :
    ∃ N, N = a1 + 256 * a2 ∧ N ≤ 65526 ∧ a0 = 199 ∧ a1 = N % 256 ∧ a2 = N / 256 ∧ a3 = (65535 - N) % 256 ∧ a4 = (65535 - N) / 256 ∧ a5 = 1 ∧ N ≤ t.length ∧ Crc.more 0 (headL N ++ t.take N) = a6 + 256 * a7 + 65536 * a8 + 16777216 * a9 := by
  obtain ⟨_, h2, h3, h4, h5⟩ := unpF_ok h
  have hN : getN (a0 :: a1 :: a2 :: a3 :: a4 :: a5 :: a6 :: a7 :: a8 :: a9 :: t) = a1 + 256 * a2 := rfl
  have hS : getS (a0 :: a1 :: a2 :: a3 :: a4 :: a5 :: a6 :: a7 :: a8 :: a9 :: t) = a6 + 256 * a7 + 65536 * a8 + 16777216 * a9 := rfl
  rw [hS, h3] at h5
  rw [hN] at h2 h3 h4 h5
  have h6 : [a0, a1, a2, a3, a4, a5] = headL (a1 + 256 * a2) := h3
  simp only [headL, List.cons.injEq, and_true] at h6
  obtain ⟨e0, e1, e2, e3, e4, e5⟩ := h6
  refine ⟨_, rfl, h2, e0, e1, e2, e3, e4, e5, by simp at h4; omega, h5⟩

theorem rec_cons (l z : List Nat) : recL l ++ z = 199 :: l.length % 256 :: l.length / 256 :: (65535 - l.length) % 256 :: (65535 - l.length) / 256 :: 1 :: recSum l % 256 :: recSum l / 256 % 256 :: recSum l / 65536 % 256 :: recSum l / 16777216 :: (l ++ z) := by
  rw [recL_form]
  rfl

/-- One byte of the head or of the sum is another. -/
theorem bad_head (l z : List Nat) (p y : Nat) (hn : l.length ≤ 65526) (hp : p < 10) (hne : y ≠ (recL l ++ z)[p]?.getD 0) (hy : y < 256) : (unpF ((recL l ++ z).set p y)).1 ≠ 0 := by
  intro h
  have hs : recSum l < 4294967296 := Crc.more_lt _ _
  rw [rec_cons] at h hne
  have hsum : ∀ N, N = l.length → Crc.more 0 (headL N ++ (l ++ z).take N) = recSum l := fun N e => by
    subst e
    rw [List.take_left' rfl]
    rfl
  rcases (show p = 0 ∨ p = 1 ∨ p = 2 ∨ p = 3 ∨ p = 4 ∨ p = 5 ∨ p = 6 ∨ p = 7 ∨ p = 8 ∨ p = 9 by omega) with e | e | e | e | e | e | e | e | e | e <;> subst e
  all_goals simp only [List.set_cons_zero, List.set_cons_succ] at h
  all_goals obtain ⟨N, e, h1, h2, h3, h4, h5, h6, h7, _, h8⟩ := cons_ok h
  all_goals simp at hne
  all_goals first
    | omega
    | (rw [hsum N (by omega)] at h8; omega)

/-- Bytes at a place, each xored with one of bs. -/
def xorTo (R : List Nat) (p : Nat) (bs : List Nat) : Nat → List Nat
  | 0 => R
  | k + 1 => (xorTo R p bs k).set (p + k) (((xorTo R p bs k)[p + k]?.getD 0) ^^^ (bs[k]?.getD 0))
theorem xorTo_length (R : List Nat) (p : Nat) (bs : List Nat) (k : Nat) : (xorTo R p bs k).length = R.length := by
  induction k with
  | zero => rfl
  | succ k ih => simp [xorTo, ih]
theorem xorTo_bytes {R bs : List Nat} (p : Nat) (h1 : ∀ b ∈ R, b < 256) (h2 : ∀ b ∈ bs, b < 256) (k : Nat) : ∀ b ∈ xorTo R p bs k, b < 256 := by
  induction k with
  | zero => exact h1
  | succ k ih =>
    refine bytes_set ih (Nat.xor_lt_two_pow (n := 8) ?_ ?_)
    · have := bytes_getD ih (p + k); omega
    · have := bytes_getD h2 k; omega
theorem xorTo_out (R : List Nat) (p : Nat) (bs : List Nat) (k j : Nat) (h : j < p ∨ p + k ≤ j) : (xorTo R p bs k)[j]? = R[j]? := by
  induction k with
  | zero => rfl
  | succ k ih =>
    rw [xorTo, List.getElem?_set_ne (by omega)]
    exact ih (by omega)
theorem xorTo_in (R : List Nat) (p : Nat) (bs : List Nat) (k i : Nat) (h : i < k) (hR : p + i < R.length) : (xorTo R p bs k)[p + i]? = some ((R[p + i]?.getD 0) ^^^ (bs[i]?.getD 0)) := by
  induction k with
  | zero => omega
  | succ k ih =>
    rw [xorTo]
    by_cases e : i = k
    · subst e
      rw [List.getElem?_set_self (by rw [xorTo_length]; exact hR), xorTo_out R p bs i (p + i) (by omega)]
    · rw [List.getElem?_set_ne (by omega)]
      exact ih (by omega)
theorem xorTo_none (R : List Nat) (p : Nat) (bs : List Nat) (k : Nat) (h : ∀ i, i < k → bs[i]?.getD 0 = 0) : xorTo R p bs k = R := by
  induction k with
  | zero => rfl
  | succ k ih =>
    rw [xorTo, ih (fun i hi => h i (by omega)), h k (by omega), Nat.xor_zero]
    apply List.ext_getElem?
    intro j
    rw [List.getElem?_set]
    split
    · rename_i e
      subst e
      split
      · rename_i hl
        rw [List.getElem?_eq_getElem hl]
        rfl
      · rename_i hl
        rw [List.getElem?_eq_none (by omega)]
    · rfl
theorem xor_ne {x y : Nat} (h : y ≠ 0) : x ^^^ y ≠ x := fun e => h (by
  have := congrArg (fun t => x ^^^ t) e
  simpa [← Nat.xor_assoc] using this)
theorem xorTo_cons (a : Nat) (R : List Nat) (p : Nat) (bs : List Nat) (k : Nat) : xorTo (a :: R) (p + 1) bs k = a :: xorTo R p bs k := by
  induction k with
  | zero => rfl
  | succ k ih =>
    rw [xorTo, ih, xorTo, show p + 1 + k = (p + k) + 1 by omega]
    simp

/-- Up to four bytes of the body are others. -/
theorem bad_body (l z bs : List Nat) (q k : Nat) (hl : ∀ b ∈ l, b < 256) (hz : ∀ b ∈ z, b < 256) (hbs : ∀ b ∈ bs, b < 256) (hn : l.length ≤ 65526) (hk : k ≤ 4) (i : Nat) (hi : i < k) (hiq : q + i < l.length) (hne : bs[i]?.getD 0 ≠ 0) :
    (unpF (xorTo (recL l ++ z) (q + 10) bs k)).1 ≠ 0 := by
  intro h
  rw [rec_cons] at h
  simp only [xorTo_cons] at h
  obtain ⟨N, e, _, _, _, _, _, _, _, hNt, h8⟩ := cons_ok h
  have hs : recSum l < 4294967296 := Crc.more_lt _ _
  have hN : N = l.length := by omega
  subst hN
  have h9 : Crc.more 0 (headL l.length ++ (xorTo (l ++ z) q bs k).take l.length) = Crc.more 0 (headL l.length ++ l) := by
    rw [h8]
    show _ = recSum l
    omega
  have hlen : (xorTo (l ++ z) q bs k).length = l.length + z.length := by rw [xorTo_length, List.length_append]
  have hb : ∀ b ∈ (xorTo (l ++ z) q bs k).take l.length, b < 256 := fun b hb => xorTo_bytes q (bytes_app hl hz) hbs k b (List.mem_of_mem_take hb)
  have hlt : ((xorTo (l ++ z) q bs k).take l.length).length = l.length := by rw [List.length_take, hlen]; omega
  have hat : ∀ j, j < l.length → ((xorTo (l ++ z) q bs k).take l.length)[j]? = (xorTo (l ++ z) q bs k)[j]? := fun j hj => by rw [List.getElem?_take, if_pos hj]
  generalize (xorTo (l ++ z) q bs k).take l.length = l' at h9 hb hlt hat
  have hout : ∀ j, j < l.length → (j < q ∨ q + 4 ≤ j) → l'[j]? = l[j]? := fun j hj ho => by
    rw [hat j hj, xorTo_out _ _ _ _ _ (by omega), List.getElem?_append_left hj]
  have hin : l'[q + i]? ≠ l[q + i]? := by
    rw [hat _ hiq, xorTo_in _ _ _ _ _ hi (by rw [List.length_append]; omega), List.getElem?_append_left hiq, List.getElem?_eq_getElem hiq]
    intro e
    injection e with e
    exact xor_ne hne e
  have t1 : l'.take q = l.take q := by
    apply List.ext_getElem?
    intro j
    rw [List.getElem?_take, List.getElem?_take]
    split
    · by_cases hj : j < l.length
      · exact hout j hj (by omega)
      · rw [List.getElem?_eq_none (by omega), List.getElem?_eq_none (by omega)]
    · rfl
  have t2 : l'.drop (q + 4) = l.drop (q + 4) := by
    apply List.ext_getElem?
    intro j
    rw [List.getElem?_drop, List.getElem?_drop]
    by_cases hj : q + 4 + j < l.length
    · exact hout _ hj (by omega)
    · rw [List.getElem?_eq_none (by omega), List.getElem?_eq_none (by omega)]
  have sp : ∀ x : List Nat, x = x.take q ++ (x.drop q).take 4 ++ x.drop (q + 4) := fun x => by
    rw [List.append_assoc, ← List.drop_drop, List.take_append_drop, List.take_append_drop]
  have e1 : headL l.length ++ l' = (headL l.length ++ l.take q) ++ (l'.drop q).take 4 ++ l.drop (q + 4) := by
    have := sp l'
    rw [t1, t2] at this
    rw [List.append_assoc (headL l.length), List.append_assoc (headL l.length), ← this]
  have e2 : headL l.length ++ l = (headL l.length ++ l.take q) ++ (l.drop q).take 4 ++ l.drop (q + 4) := by
    rw [List.append_assoc (headL l.length), List.append_assoc (headL l.length), ← sp l]
  rw [e1, e2] at h9
  have h10 := Crc.more_burst (bytes_app (headL_bytes (by omega)) (fun b hb => hl b (List.mem_of_mem_take hb))) (fun b hx => hb b (List.mem_of_mem_drop (List.mem_of_mem_take hx))) (fun b hx => hl b (List.mem_of_mem_drop (List.mem_of_mem_take hx))) (fun b hx => hl b (List.mem_of_mem_drop hx))
    (by simp [hlt]) (by simp; omega) h9
  have h11 : l' = l := by
    have a1 := sp l'
    rw [t1, t2, h10, ← sp l] at a1
    exact a1
  exact hin (by rw [h11])
end Go.Proofs.Ytjofpjioaiamhaa
