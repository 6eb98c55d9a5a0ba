/- frame.Unpack: what it answers. -/
import Derived.Test.YtjofpjioaiamhaaPack
import Derived.Deep.RegionHeld3
import Derived.Laws.Cover3
namespace Go.Proofs.Ytjofpjioaiamhaa
open Go.RowKit

def getN (m : List Nat) : Nat := m[1]?.getD 0 + 256 * m[2]?.getD 0
def getS (m : List Nat) : Nat := m[6]?.getD 0 + 256 * m[7]?.getD 0 + 65536 * m[8]?.getD 0 + 16777216 * m[9]?.getD 0
/-- What stands at the beginning of some bytes: the error, the size, the body. -/
def unpF (m : List Nat) : Nat × Nat × List Nat :=
  if m.length < 10 then (62, 0, []) else
  if 65526 < getN m ∨ m.take 6 ≠ headL (getN m) then (63, 0, []) else
  if m.length < 10 + getN m then (62, 0, []) else
  if Crc.more 0 (m.take 6 ++ (m.drop 10).take (getN m)) ≠ getS m then (64, 0, []) else
  (0, 10 + getN m, (m.drop 10).take (getN m))
def unpL (l : List Nat) (at_ : Int) : Nat × Nat × List Nat := if at_ < 0 ∨ (l.length : Int) < at_ then (61, 0, []) else unpF (l.drop at_.toNat)

set_option maxRecDepth 20000 in
set_option maxHeartbeats 1000000 in
/-- slices.Equal. -/
theorem equal_any (l m : List Nat) (A1 A2 : Option Addr) (n1 n2 c1 c2 B1 B2 : Nat) (w : World) (hn1 : l.length = n1) (hn2 : m.length = n2) (hm : n1 ≤ 4611686018427387904) (h1 : Byt w B1 A1 l) (h2 : Byt w B2 A2 m) :
    Calls Try.prog 26 #[.slice A1 n1 c1, .slice A2 n2 c2] w fun e w' => e = .returned (.bool (decide (l = m))) ∧ ∃ k, w' = w.drewN k := by
  have hn1' := Lib.hid hn1
  have hn2' := Lib.hid hn2
  have h1' := Lib.hid h1
  have h2' := Lib.hid h2
  clear hn1 hn2 h1 h2
  by_cases hne : n1 = n2
  · subst hne
    go_enter Try.func26, Try.ntmps26
    go_wp2_with fail
    go_loopw [13] (fun i wr => ∃ k q : Nat, k ≤ n1 ∧ i = .int .i64 k ∧ wr = w.drewN q ∧ l.take k = m.take k) (fun i _ => n1 - (intOf i).toNat)
    case atStart => exact ⟨0, 0, by omega, rfl, rfl, by simp⟩
    case round =>
      obtain ⟨k, q, hk, rfl, rfl, heq⟩ := hrel
      have heq' := Lib.hid heq
      clear heq
      by_cases hlt : k < n1
      · obtain ⟨b1, o1, rfl, _, q1⟩ := Rd.get h1'.out (by rw [hn1'.out]; exact hlt)
        obtain ⟨b2, o2, rfl, _, q2⟩ := Rd.get h2'.out (by rw [hn2'.out]; exact hlt)
        have t1 := Lib.hid (bytes_take (l := l) (k := k) (by rw [hn1'.out]; exact hlt))
        have t2 := Lib.hid (bytes_take (l := m) (k := k) (by rw [hn2'.out]; exact hlt))
        have g1 : Hid (l[k]?.getD 0 ≠ m[k]?.getD 0 → l ≠ m) := Lib.hid (fun hh e => hh (by rw [e]))
        generalize l[k]?.getD 0 = x at q1 t1 g1
        generalize m[k]?.getD 0 = y at q2 t2 g1
        by_cases hxy : x = y
        · subst hxy
          go_wp2_with fail
          go_quiet (fail)
          go_wp2_with fail
          go_roundw
          case rel => exact ⟨k + 1, _, by omega, by go_num, rfl, by rw [t1.out, t2.out, heq'.out]⟩
          case measure => simp [intOf]; omega
        · go_wp2_with fail
          go_quiet (fail)
          go_wp2_with fail
          go_ret
          exact ⟨ret_bool (by simp [g1.out hxy]), q + nq, World.drewN_drewN _ _ _⟩
      · obtain rfl : k = n1 := by omega
        go_wp2_with fail
        go_ret
        have := heq'.out
        rw [← hn1'.out, List.take_length, hn1'.out, ← hn2'.out, List.take_length] at this
        exact ⟨ret_bool (by simp [this]), q, rfl⟩
  · have : l ≠ m := fun e => hne (by rw [← hn1'.out, ← hn2'.out, e])
    go_enter Try.func26, Try.ntmps26
    go_wp2_with fail
    go_ret
    exact ⟨ret_bool (by simp [this]), 0, rfl⟩

theorem eql_nil (w : World) (A : Option Addr) (n c : Nat) : (binOp .eql 23 (.slice A n c) (.slice none 0 0)).run Try.prog w = .ok (.bool A.isNone) w := by
  simp [binOp, run_equal_slice_nil w _ _ A n c Try.underlying23]

set_option maxRecDepth 20000 in
/-- slices.Clone. -/
theorem clone_any (l : List Nat) (ad : Addr) (n c B : Nat) (w : World) (hn : l.length = n) (hm : n ≤ 140737488355328) (h : Byt w B (some ad) l) :
    Calls Try.prog 27 #[.slice (some ad) n c] w fun e w' => (∃ A' c', e = .returned (.slice A' n c') ∧ Own w' w.heap.size 5 1 A' n c' (u8s l)) ∧ Below w.heap.size w w' := by
    have hn' := Lib.hid hn
    have h' := Lib.hid h
    clear h hn
    have o0 : Own (w.alloc (.cells #[] 5)) w.heap.size 5 1 (some ⟨w.heap.size, 0, none⟩) 0 0 (u8s []) := Own.lit w w.heap.size 5 1 0 #[] rfl (by unfold maxLen; omega) (Nat.le_refl _)
    have hB0 : Below w.heap.size w (w.alloc (.cells #[] 5)) := (Below.refl _ w).alloc (Nat.le_refl _) _
    have hr0 : Rd (w.alloc (.cells #[] 5)) w.heap.size (some ad) (n * 1) (fun j => .int .u8 ((l[j]?.getD 0 : Nat) : Int)) := by
      rw [Nat.mul_one, ← hn'.out]
      intro hpos
      obtain ⟨b, off, e, hb, hc⟩ := h'.out hpos
      exact ⟨b, off, e, World.block_lt_of_cell? _ _ (hc 0 hpos), fun j hj => (World.cell?_alloc_lt w _ ⟨b, off + j, none⟩ (World.block_lt_of_cell? _ _ (hc j hj))).trans (hc j hj)⟩
    clear h'
    have e0 := fun w => eql_nil w (some ad) n c
    go_enter Try.func27, Try.ntmps27
    go_wp2_with (at_builtin; go_loud (refine wpList_app elB _ rfl _ _ rfl rfl o0 rfl hr0 (fun _ _ => rfl) (by unfold maxLen; omega) (by omega) hB0.size n (by omega) _ rfl ?_); intro A5 c5 w5 o5 _ hb5)
    rw [u8s_app hn'.out.symm, List.nil_append] at o5
    go_wp2_with fail
    go_ret
    exact ⟨⟨A5, c5, rfl, o5⟩, hB0.trans hb5⟩

/-- The answer as a value. -/
def Unp (w0 w' : World) (e : Ending) (r : Nat × Nat × List Nat) : Prop :=
  ∃ A' c', e = .returned (.tuple #[.slice A' r.2.2.length c', .int .i64 (r.2.1 : Nat), .int .i64 (r.1 : Nat)]) ∧ Own w' w0.heap.size 5 1 A' r.2.2.length c' (u8s r.2.2) ∧ Below w0.heap.size w0 w'
theorem Unp.err (w w' : World) (k : Nat) (h : Below w.heap.size w w') : Unp w w' (.returned (.tuple #[.slice none 0 0, .int .i64 0, .int .i64 (k : Nat)])) (k, 0, []) := ⟨none, 0, rfl, Own.nil _ _ _ _, h⟩

theorem or_low {a b : Nat} (i : Nat) (ha : a < 2 ^ i) : a ||| (b * 2 ^ i) = a + 2 ^ i * b := by
  have h := Nat.two_pow_add_eq_or_of_lt ha b
  rw [Nat.or_comm, Nat.mul_comm b, ← h, Nat.add_comm]
theorem i64_or_nat (a b : Nat) (ha : a < 9223372036854775808) (hb : b < 9223372036854775808) : bits .or .i64 (a : Int) (b : Int) = ((a ||| b : Nat) : Int) := by
  have hx : a ||| b < 2 ^ 63 := Nat.or_lt_two_pow (by omega) (by omega)
  show IntKind.i64.wrap ((BitVec.ofInt 64 (a : Int) ||| BitVec.ofInt 64 (b : Int)).toNat : Int) = _
  rw [BitVec.toNat_or, ofInt_u64 a (by omega), ofInt_u64 b (by omega), IntKind.wrap_i64]
  omega
theorem two_or {a b : Nat} (ha : a < 256) (hb : b < 256) : bits .or .i64 (a : Int) ((b : Int) * 256) = ((a + 256 * b : Nat) : Int) := by
  have h := i64_or_nat a (b * 256) (by omega) (by omega)
  rw [or_low (b := b) 8 (by omega)] at h
  rw [← h]
  congr 1
theorem four_or {a b M i : Nat} (hM : M = 2 ^ i) (hi : i ≤ 24) (ha : a < M) (hb : b < 256) : bits .or .u32 (a : Int) ((b : Int) * M) = ((a + M * b : Nat) : Int) := by
  subst hM
  have h2 : 2 ^ i ≤ 16777216 := Nat.pow_le_pow_right (by decide) hi
  have h3 : b * 2 ^ i ≤ 255 * 16777216 := Nat.mul_le_mul (by omega) h2
  have h := u32_or_nat a (b * 2 ^ i) (by omega) (by omega)
  rw [or_low (b := b) i ha] at h
  rw [← h, Int.natCast_mul]
theorem byt_nil {w : World} {B : Nat} {A : Option Addr} {l : List Nat} (h : l.length = 0) : Byt w B A l := fun hn => by omega
/-- What stands while Unpack reads. -/
def Held2 (w w' : World) (B b off : Nat) (m : List Nat) : Prop := Below w.heap.size w w' ∧ Byt w' B (some ⟨b, off, none⟩) m
section
variable {w w1 w2 : World} {B b off : Nat} {m : List Nat}
theorem Held2.keep (h : Held2 w w1 B b off m) (hB : B ≤ w.heap.size) (hb : Below w1.heap.size w1 w2) : Held2 w w2 B b off m :=
  ⟨h.1.trans (hb.mono h.1.size), h.2.below (hb.mono (Nat.le_trans hB h.1.size))⟩
theorem Held2.drewN (h : Held2 w w1 B b off m) (k : Nat) : Held2 w (w1.drewN k) B b off m := ⟨below_drewN h.1 k, Rd.drewN h.2 k⟩
theorem Held2.take (h : Held2 w w1 B b off m) (q : Nat) (hq : q ≤ m.length) : Byt w1 B (some ⟨b, off, none⟩) (m.take q) := by
  have := Rd.take h.2 (m := q) hq
  have hl : (m.take q).length = q := by simp; omega
  unfold Byt
  rw [hl]
  exact this.congr fun j hj => by simp [hj]
theorem Held2.mid (h : Held2 w w1 B b off m) (p q : Nat) (hpq : p + q ≤ m.length) : Byt w1 B (some ⟨b, off + p, none⟩) ((m.drop p).take q) := by
  have hl : ((m.drop p).take q).length = q := by simp; omega
  unfold Byt
  rw [hl]
  intro hq
  obtain ⟨b', off', e, hb, hc⟩ := h.2 (by omega)
  cases e
  exact ⟨b, off + p, rfl, hb, fun j hj => by rw [Nat.add_assoc, hc (p + j) (by omega)]; simp [hj]⟩
theorem Held2.cell (h : Held2 w w1 B b off m) (j : Nat) (hj : j < m.length) : w1.cell? ⟨b, off + j, none⟩ = some (.int .u8 ((m[j]?.getD 0 : Nat) : Int)) := by
  obtain ⟨b', off', e, hb, hc⟩ := h.2 (by omega)
  cases e
  exact hc j hj
end

/-- b[10:10+N] of what is held: its value, its bytes. -/
theorem slice_tail {w w1 : World} {B b off c r : Nat} {m : List Nat} (N : Nat) (_h : Held2 w w1 B b off m) (hlN : ((m.drop 10).take N).length = N) (hr : m.length = r) (hrc : r ≤ c) (hN : 10 + N ≤ m.length) :
    ∃ ad : Addr, (∀ w', (Instr.slice 23 (.slice (some ⟨b, off, none⟩) r c) (some (.int .i64 10)) (some (.int .i64 (10 + (N : Int)))) none).run Try.prog w' = .ok (.slice (some ad) N (c - 10)) w') ∧
      ∀ w', Held2 w w' B b off m → Byt w' B (some ad) ((m.drop 10).take N) := by
  refine ⟨if c = 10 then ⟨b, off, none⟩ else ⟨b, off + 10, none⟩, fun w' => ?_, fun w' h' => ?_⟩
  · have e1 : (10 + (N : Int)).toNat = 10 + N := by omega
    have hs : (sizeOf (Try.prog.elem 23)).run Try.prog w' = .ok 1 w' := by kernel_rfl
    rw [run_slice_lh w' 23 _ r c (by rw [Try.underlying23]; kernel_rfl) .i64 .i64 10 (10 + (N : Int)) (by omega) (by omega) (by omega), hs]
    simp only [Result.andThen, sliced, e1, show (10 : Int).toNat = 10 from rfl]
    by_cases hc : c = 10
    · simp [hc]
    · simp [hc, Addr.add_lit]
  · by_cases hc : c = 10
    · rw [if_pos hc]
      exact byt_nil (by omega)
    · rw [if_neg hc]
      exact h'.mid 10 N hN

set_option maxRecDepth 20000 in
set_option maxHeartbeats 4000000 in
theorem unpack_any (l : List Nat) (at_ : Int) (A : Option Addr) (n c B : Nat) (w : World) (hl : ∀ b ∈ l, b < 256) (hn : l.length = n) (hnc : n ≤ c) (hcm : c ≤ maxLen) (hnm : n ≤ 281474976710656) (hB : B ≤ w.heap.size) (h : Byt w B A l) :
    Calls Try.prog 14 #[.slice A n c, .int .i64 at_] w fun e w' => Unp w w' e (unpL l at_) := by
  have hl' := Lib.hid hl
  have hn' := Lib.hid hn
  have h' := Lib.hid h
  unfold maxLen at hcm
  by_cases h1 : at_ < 0
  · have e0 : unpL l at_ = (61, 0, []) := by simp [unpL, h1]
    rw [e0]
    clear hl hn h
    go_enter Try.func14, Try.ntmps14
    go_wp2_with fail
    go_ret3
    exact Unp.err w w 61 (Below.refl _ _)
  · by_cases h2 : (n : Int) < at_
    · have e0 : unpL l at_ = (61, 0, []) := by simp [unpL, hn, h2]
      rw [e0]
      clear hl hn h
      go_enter Try.func14, Try.ntmps14
      go_wp2_with fail
      go_ret3
      exact Unp.err w w 61 (Below.refl _ _)
    · obtain ⟨k, rfl⟩ : ∃ k : Nat, at_ = k := ⟨at_.toNat, by omega⟩
      have e0 : unpL l (k : Int) = unpF (l.drop k) := by
        unfold unpL
        rw [if_neg (by rw [hn]; omega)]
        rfl
      rw [e0]
      have hk : k ≤ n := by omega
      clear h1 h2 e0
      have hm : (l.drop k).length = n - k := by rw [List.length_drop, hn]
      have hmb : ∀ b ∈ l.drop k, b < 256 := fun b hb => hl b (List.mem_of_mem_drop hb)
      have hr : Byt w B (if c = k then A else A.map (·.add k)) (l.drop k) := by
        have := Rd.cut h (k := k) (cap := c) (by omega) (by omega)
        rw [hn] at this
        unfold Byt
        rw [hm]
        exact this.congr fun j hj => by simp
      have hm' := Lib.hid hm
      have hmb' := Lib.hid hmb
      have hr' := Lib.hid hr
      clear hl hn h hl' hn' h' hm hmb hr
      generalize l.drop k = m at hm' hmb' hr' ⊢
      by_cases h10 : n - k < 10
      · have e0 : unpF m = (62, 0, []) := by unfold unpF; rw [if_pos (by rw [hm'.out]; exact h10)]
        rw [e0]
        clear e0
        by_cases hck : c = k
        all_goals go_enter Try.func14, Try.ntmps14
        all_goals go_wp2_with fail
        all_goals go_ret3
        all_goals exact Unp.err w w 62 (Below.refl _ _)
      · have hck : ¬ c = k := by omega
        have hr2 := hr'.out
        rw [if_neg hck] at hr2
        obtain ⟨b, off, hA, hbB, hcell⟩ := hr2 (by rw [hm'.out]; omega)
        obtain ⟨a, rfl⟩ : ∃ a, A = some a := by cases A <;> simp_all
        have hA' : a.add k = ⟨b, off, none⟩ := by simpa using hA
        have q : ∀ j, j < 10 → w.cell? ⟨b, off + j, none⟩ = some (.int .u8 ((m[j]?.getD 0 : Nat) : Int)) := fun j hj => hcell j (by rw [hm'.out]; omega)
        have q1 := q 1 (by omega)
        have q2 := q 2 (by omega)
        have q6 := q 6 (by omega)
        have q7 := q 7 (by omega)
        have q8 := q 8 (by omega)
        have q9 := q 9 (by omega)
        have b1 := bytes_getD hmb'.out 1
        have b2 := bytes_getD hmb'.out 2
        have b6 := bytes_getD hmb'.out 6
        have b7 := bytes_getD hmb'.out 7
        have b8 := bytes_getD hmb'.out 8
        have b9 := bytes_getD hmb'.out 9
        have hN : getN m = m[1]?.getD 0 + 256 * m[2]?.getD 0 := rfl
        have hS : getS m = m[6]?.getD 0 + 256 * m[7]?.getD 0 + 65536 * m[8]?.getD 0 + 16777216 * m[9]?.getD 0 := rfl
        have h2 : Held2 w w B b off m := ⟨Below.refl _ _, fun _ => ⟨b, off, rfl, hbB, hcell⟩⟩
        have h2' := Lib.hid h2
        have hor := two_or b1 b2
        have i6 : (6 : Int) ≤ ((c - k : Nat) : Int) := by omega
        have i10 : (10 : Int) ≤ ((c - k : Nat) : Int) := by omega
        rw [← hN] at hor
        have hNlt : getN m ≤ 65535 := by rw [hN]; omega
        have e1 : unpF m = if 65526 < getN m ∨ m.take 6 ≠ headL (getN m) then (63, 0, []) else if n - k < 10 + getN m then (62, 0, []) else if Crc.more 0 (m.take 6 ++ (m.drop 10).take (getN m)) ≠ getS m then (64, 0, []) else (0, 10 + getN m, (m.drop 10).take (getN m)) := by
          unfold unpF
          rw [hm'.out, if_neg h10]
        have e1' := Lib.hid e1
        clear q hcell hA hr' hr2 e1 h2
        generalize m[1]?.getD 0 = x1 at *
        generalize m[2]?.getD 0 = x2 at *
        generalize g6 : m[6]?.getD 0 = x6 at *
        generalize g7 : m[7]?.getD 0 = x7 at *
        generalize g8 : m[8]?.getD 0 = x8 at *
        generalize g9 : m[9]?.getD 0 = x9 at *
        have v6 := Lib.hid g6
        have v7 := Lib.hid g7
        have v8 := Lib.hid g8
        have v9 := Lib.hid g9
        clear g6 g7 g8 g9
        generalize hNN : getN m = N at *
        generalize hSS : getS m = S at *
        clear hN hNN hSS
        have hS' := Lib.hid hS
        clear hS
        go_enter Try.func14, Try.ntmps14
        go_wp2_with fail
        go_quiet (fail)
        have h3 := Lib.hid (h2'.out.drewN nq)
        clear q1 q2 q6 q7 q8 q9 h2' hor
        generalize w.drewN nq = w1 at h3 ⊢
        by_cases hbig : 65526 < N
        · have e2 := e1'.out
          rw [if_pos (.inl hbig)] at e2
          have e2' := Lib.hid e2
          clear e2
          have hbig' : decide (65526 < (N : Int)) = true := by simp; omega
          go_wp2_with fail
          go_quiet (fail)
          go_wp2_with fail
          go_ret3
          rw [e2'.out]
          exact Unp.err w _ 63 (below_drewN h3.out.1 _)
        · have hbig' : decide (65526 < (N : Int)) = false := by simp; omega
          by_cases heq : m.take 6 = headL N
          · have e2 := e1'.out
            rw [if_neg (by intro h; rcases h with h | h; exact hbig h; exact h heq)] at e2
            have e2' := Lib.hid e2
            clear e2
            go_wp2_with fail
            go_region_held3 (fun w' => Held2 w w' B b off m)
              (first | exact h3.out.drewN 1 | exact Held2.keep (by assumption) hB hb | exact Held2.drewN (by assumption) _ | assumption)
              (first
                | (go_at_call 25; refine (head_any N _ (by omega)).mono ?_; rintro e w' ⟨⟨g, rfl, o1⟩, hb⟩)
                | (go_at_call 26; refine (equal_any (m.take 6) (headL N) _ _ 6 6 _ _ B _ _ (by rw [List.length_take, hm'.out]; omega) rfl (by omega) (Held2.take (by assumption) 6 (by rw [hm'.out]; omega)) o1.byt).mono ?_; rw [decide_eq_true heq]; rintro e w' ⟨rfl, kq, rfl⟩))
            rename_i hH
            have h4 := Lib.hid hH
            clear hH h3 o1 hb heq
            generalize w'.drewN kq = w2 at h4 ⊢
            by_cases hsh : n - k < 10 + N
            · have e3 := e2'.out
              rw [if_pos hsh] at e3
              have e3' := Lib.hid e3
              clear e3
              go_wp2_with fail
              go_ret3
              rw [e3'.out]
              exact Unp.err w _ 62 h4.out.1
            · have e3 := e2'.out
              rw [if_neg hsh] at e3
              have e3' := Lib.hid e3
              have hl6 : (m.take 6).length = 6 := by rw [List.length_take, hm'.out]; omega
              have hlN : ((m.drop 10).take N).length = N := by rw [List.length_take, List.length_drop, hm'.out]; omega
              have hb6 : ∀ x ∈ m.take 6, x < 256 := fun x hx => hmb'.out x (List.mem_of_mem_take hx)
              have hbN : ∀ x ∈ (m.drop 10).take N, x < 256 := fun x hx => hmb'.out x (List.mem_of_mem_drop (List.mem_of_mem_take hx))
              have hl6' := Lib.hid hl6
              have hlN' := Lib.hid hlN
              have hb6' := Lib.hid hb6
              have hbN' := Lib.hid hbN
              clear e3 hl6 hlN hb6 hbN
              have q6 := h4.out.cell 6 (by rw [hm'.out]; omega)
              have q7 := h4.out.cell 7 (by rw [hm'.out]; omega)
              have q8 := h4.out.cell 8 (by rw [hm'.out]; omega)
              have q9 := h4.out.cell 9 (by rw [hm'.out]; omega)
              rw [v6.out] at q6
              rw [v7.out] at q7
              rw [v8.out] at q8
              rw [v9.out] at q9
              have iN : (10 : Int) + (N : Int) ≤ ((c - k : Nat) : Int) := by omega
              have f6 : bits .or .u32 (x6 : Int) ((x7 : Int) * 256) = ((x6 + 256 * x7 : Nat) : Int) := four_or (M := 256) (i := 8) rfl (by omega) b6 b7
              have f7 : bits .or .u32 ((x6 + 256 * x7 : Nat) : Int) ((x8 : Int) * 65536) = ((x6 + 256 * x7 + 65536 * x8 : Nat) : Int) := four_or (a := x6 + 256 * x7) (M := 65536) (i := 16) rfl (by omega) (by omega) b8
              have f8 : bits .or .u32 ((x6 + 256 * x7 + 65536 * x8 : Nat) : Int) ((x9 : Int) * 16777216) = ((x6 + 256 * x7 + 65536 * x8 + 16777216 * x9 : Nat) : Int) := four_or (a := x6 + 256 * x7 + 65536 * x8) (M := 16777216) (i := 24) rfl (by omega) (by omega) b9
              rw [← hS'.out] at f8
              generalize hy1 : x6 + 256 * x7 = y1 at f6 f7 f8
              generalize hy2 : y1 + 65536 * x8 = y2 at f7 f8
              clear hy1 hy2
              go_wp2_with fail
              go_quiet (fail)
              have h5 := Lib.hid (h4.out.drewN nq)
              clear q6 q7 q8 q9 h4 f6 f7 f8
              generalize w2.drewN nq = w3 at h5 ⊢
              have hcr : Crc.more (Crc.more 0 (m.take 6)) ((m.drop 10).take N) = Crc.more 0 (m.take 6 ++ (m.drop 10).take N) := Crc.more_append hb6'.out
              have hcr' := Lib.hid hcr
              clear hcr
              go_wp2_with fail
              obtain ⟨ad, hsl, hby⟩ := slice_tail (c := c - k) (r := n - k) N h5.out hlN'.out hm'.out (by omega) (by rw [hm'.out]; omega)
              have hby' := Lib.hid hby
              clear hby
              go_region_held3 (fun w' => Held2 w w' B b off m)
                (first | exact h5.out.drewN 1 | exact Held2.keep (by assumption) hB hb | assumption)
                (first
                  | (go_at_call 9; refine (crc_any (m.take 6) _ 6 _ B _ hb6'.out hl6'.out (by omega) (Nat.le_trans hB (Below.size (And.left (show Held2 w _ B b off m by assumption)))) (Held2.take (by assumption) 6 (by rw [hm'.out]; omega))).mono ?_; rintro e w' ⟨rfl, hb⟩)
                  | (go_at_call 10; refine (more_any _ ((m.drop 10).take N) _ N _ B _ (Crc.more_lt _ _) hbN'.out hlN'.out (by omega) (Nat.le_trans hB (Below.size (And.left (show Held2 w _ B b off m by assumption)))) (hby'.out _ (by assumption))).mono ?_; rw [hcr'.out]; rintro e w' ⟨rfl, hb⟩))
              rename_i hH
              have h6 := Lib.hid hH
              clear hH h5 hb
              generalize hCC : Crc.more 0 (m.take 6 ++ (m.drop 10).take N) = C at *
              have e4 := e3'.out
              by_cases hcrc : C = S
              · rw [if_neg (by intro h; exact h hcrc)] at e4
                have e4' := Lib.hid e4
                subst hcrc
                clear e4 hCC
                go_wp2_with fail
                refine (clone_any ((m.drop 10).take N) ad N _ B _ hlN'.out (by omega) (hby'.out _ h6.out)).mono ?_
                rintro e w9 ⟨⟨A9, c9, rfl, o9⟩, hb9⟩
                have o9' := Lib.hid (o9.base h6.out.1.size)
                have hB9 := Lib.hid (h6.out.1.trans (hb9.mono h6.out.1.size))
                clear o9 hb9
                go_wp2_with fail
                go_ret3
                rw [e4'.out]
                refine ⟨A9, c9, ?_, ?_, hB9.out⟩
                · show _ = Ending.returned (.tuple #[.slice A9 ((m.drop 10).take N).length c9, .int .i64 ((10 + N : Nat) : Int), .int .i64 0])
                  rw [hlN'.out]
                  simp
                · show Own _ _ _ _ _ ((m.drop 10).take N).length _ _
                  rw [hlN'.out]
                  exact o9'.out
              · rw [if_pos hcrc] at e4
                have e4' := Lib.hid e4
                clear e4 hCC
                go_wp2_with fail
                go_ret3
                rw [e4'.out]
                exact Unp.err w _ 64 h6.out.1
          · have e2 := e1'.out
            rw [if_pos (.inr heq)] at e2
            have e2' := Lib.hid e2
            clear e2
            go_wp2_with fail
            go_region_held3 (fun w' => Held2 w w' B b off m)
              (first | exact h3.out.drewN 1 | exact Held2.keep (by assumption) hB hb | exact Held2.drewN (by assumption) _ | assumption)
              (first
                | (go_at_call 25; refine (head_any N _ (by omega)).mono ?_; rintro e w' ⟨⟨g, rfl, o1⟩, hb⟩)
                | (go_at_call 26; refine (equal_any (m.take 6) (headL N) _ _ 6 6 _ _ B _ _ (by rw [List.length_take, hm'.out]; omega) rfl (by omega) (Held2.take (by assumption) 6 (by rw [hm'.out]; omega)) o1.byt).mono ?_; rw [decide_eq_false heq]; rintro e w' ⟨rfl, kq, rfl⟩))
            rename_i hH
            have h4 := Lib.hid hH
            clear hH h3 o1 hb
            generalize w'.drewN kq = w2 at h4 ⊢
            go_wp2_with fail
            go_ret3
            rw [e2'.out]
            exact Unp.err w _ 63 h4.out.1
end Go.Proofs.Ytjofpjioaiamhaa
