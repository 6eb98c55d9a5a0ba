/- A call that changes a range of one block, and makes memory: what stands. No program is named here. Words turned: the document's functions on wide words, the program's on words of 32 digits. SHA-256's block as plain functions on numbers. No program is named here. The document's words of a block. -/
import Derived.Test.YtkjndgapejbgcaaDoorPkD2
import Derived.Deep.MidRow
import Derived.Test.YtkjndgapejbgcaaDoorProg
import Derived.Test.YtkjndgapejbgcaaDoorPkD1
import Derived.Laws.BitsAll

namespace Go.Proofs.YtkjndgapejbgcaaDoor
open Go.RowKit

/-- Of what was there, only m cells of block g from o on may have changed. -/
structure Chg (w w' : World) (g o m : Nat) : Prop where
  os : w'.os = w.os
  tape : w'.tape = w.tape
  output : w'.output = w.output
  size : w.heap.size ≤ w'.heap.size
  block : ∀ k, k < w.heap.size → k ≠ g → w'.heap[k]? = w.heap[k]?
  cell : ∀ k, k < o ∨ o + m ≤ k → w'.cell? ⟨g, k, none⟩ = w.cell? ⟨g, k, none⟩
  frozen : ∀ k, w'.frozen? ⟨g, k, none⟩ = w.frozen? ⟨g, k, none⟩
section
variable {w w' w'' : World} {g o m : Nat}
theorem Chg.refl (w : World) (g o m : Nat) : Chg w w g o m := ⟨rfl, rfl, rfl, Nat.le_refl _, fun _ _ _ => rfl, fun _ _ => rfl, fun _ => rfl⟩
theorem Chg.trans (h : Chg w w' g o m) (h' : Chg w' w'' g o m) : Chg w w'' g o m :=
  ⟨h'.os.trans h.os, h'.tape.trans h.tape, h'.output.trans h.output, Nat.le_trans h.size h'.size, fun k hk hg => (h'.block k (Nat.lt_of_lt_of_le hk h.size) hg).trans (h.block k hk hg), fun k hk => (h'.cell k hk).trans (h.cell k hk), fun k => (h'.frozen k).trans (h.frozen k)⟩
theorem Chg.of_below (h : Below w.heap.size w w') (hg : g < w.heap.size) : Chg w w' g o m :=
  ⟨h.os, h.tape, h.output, h.size, fun k hk _ => h.block k hk, fun _ _ => World.cell?_of_block (h.block g hg), fun _ => World.frozen?_of_block (h.block g hg)⟩
theorem Chg.below {B : Nat} (h : Chg w w' g o m) (hB : B ≤ w.heap.size) (hg : B ≤ g) : Below B w w' :=
  ⟨h.os, h.tape, h.output, h.size, fun k hk => h.block k (by omega) (by omega)⟩
theorem Chg.drew (h : Chg w w' g o m) : Chg w w'.drew g o m := ⟨h.os, h.tape, h.output, h.size, h.block, h.cell, h.frozen⟩
/-- A cell elsewhere. -/
theorem Chg.far (h : Chg w w' g o m) {p : Addr} {v : Value} (hp : p.block ≠ g) (hc : w.cell? p = some v) : w'.cell? p = some v :=
  (World.cell?_of_block (h.block p.block (World.block_lt_of_cell? w p hc) hp)).trans hc
theorem Chg.range (h : Chg w w' g o m) {b p : Nat} {cs : List Value} (hr : w.rangeAt b p cs) (hp : b ≠ g ∨ p + cs.length ≤ o ∨ o + m ≤ p) : w'.rangeAt b p cs := fun j v hv => by
  have hj : j < cs.length := (List.getElem?_eq_some_iff.1 hv).1
  by_cases hb : b = g
  · subst hb
    rw [h.cell (p + j) (by omega)]
    exact hr j v hv
  · exact h.far (p := ⟨b, p + j, none⟩) hb (hr j v hv)
/-- The address of a list that is not empty lies in another block. -/
def Off (A : Option Addr) (n g : Nat) : Prop := 0 < n → ∀ a, A = some a → a.block ≠ g
theorem Off.cut {A : Option Addr} {n : Nat} (h : Off A n g) {k cap : Nat} (hk : k ≤ n) (hc : n ≤ cap) : Off (if cap = k then A else A.map (·.add k)) (n - k) g := fun hn => by
  rw [if_neg (by omega)]
  intro a ha
  obtain ⟨a', ha', rfl⟩ := Option.map_eq_some_iff.1 ha
  have e : (a'.add k).block = a'.block := by unfold Addr.add; split <;> rfl
  rw [e]
  exact h (by omega) a' ha'
theorem Rd.chg {A : Option Addr} {B n : Nat} {f : Nat → Value} (h : Rd w B A n f) (hc : Chg w w' g o m) (ho : Off A n g) : Rd w' B A n f := fun hn => by
  obtain ⟨b, off, rfl, hb, hcell⟩ := h hn
  exact ⟨b, off, rfl, hb, fun j hj => hc.far (p := ⟨b, off + j, none⟩) (ho hn ⟨b, off, none⟩ rfl) (hcell j hj)⟩
theorem setCells_size (b : Nat) : ∀ (vs : List Value) (o : Nat) (w : World), (w.setCells b o vs).heap.size = w.heap.size ∧ (w.setCells b o vs).os = w.os ∧ (w.setCells b o vs).tape = w.tape ∧ (w.setCells b o vs).output = w.output
  | [], _, _ => ⟨rfl, rfl, rfl, rfl⟩
  | v :: r, o, w => by
    rw [World.setCells]
    have := setCells_size b r (o + 1) (w.setCell ⟨b, o, none⟩ v)
    exact ⟨this.1.trans (by simp), this.2.1, this.2.2.1, this.2.2.2⟩
theorem setCells_other (b : Nat) : ∀ (vs : List Value) (o : Nat) (w : World) (k : Nat), k ≠ b → (w.setCells b o vs).heap[k]? = w.heap[k]?
  | [], _, _, _, _ => rfl
  | v :: r, o, w, k, hk => by
    rw [World.setCells, setCells_other b r (o + 1) _ k hk]
    exact heap_setCell_other w ⟨b, o, none⟩ k v hk
theorem Chg.cells (w : World) (g : Nat) {o m p : Nat} {vs : List Value} (h1 : o ≤ p) (h2 : p + vs.length ≤ o + m) : Chg w (w.setCells g p vs) g o m :=
  have hs := setCells_size g vs p w
  ⟨hs.2.1, hs.2.2.1, hs.2.2.2, Nat.le_of_eq hs.1.symm, fun k _ hk => setCells_other g vs p w k hk, fun k hk => World.cell?_setCells_out g vs p w ⟨g, k, none⟩ (fun _ _ => by show k < p ∨ p + vs.length ≤ k; omega), fun k => World.frozen?_setCells g vs p w _⟩
theorem Chg.cell1 (w : World) (g : Nat) {o m p : Nat} {v : Value} (h1 : o ≤ p) (h2 : p < o + m) : Chg w (w.setCell ⟨g, p, none⟩ v) g o m := Chg.cells w g (vs := [v]) h1 (by simp; omega)
end
end Go.Proofs.YtkjndgapejbgcaaDoor

namespace Go.Proofs.YtkjndgapejbgcaaDoor
open Go.RowKit

/-- A word turned right by n places. -/
def rot (x n : Nat) : Nat := x / 2 ^ n + x % 2 ^ n * 2 ^ (32 - n)
theorem rot_lt {x n : Nat} (hx : x < 4294967296) (hn : n ≤ 32) : rot x n < 4294967296 := by
  unfold rot
  have h1 : 2 ^ n * 2 ^ (32 - n) = 4294967296 := by rw [← Nat.pow_add, show n + (32 - n) = 32 by omega]
  have h2 : x / 2 ^ n < 2 ^ (32 - n) := by
    rw [Nat.div_lt_iff_lt_mul (Nat.two_pow_pos n), Nat.mul_comm, h1]
    exact hx
  have h3 : x % 2 ^ n + 1 ≤ 2 ^ n := Nat.mod_lt _ (Nat.two_pow_pos n)
  have h4 : (x % 2 ^ n + 1) * 2 ^ (32 - n) ≤ 2 ^ n * 2 ^ (32 - n) := Nat.mul_le_mul_right _ h3
  rw [Nat.add_mul, h1] at h4
  omega
theorem rot_or {x n : Nat} (hx : x < 4294967296) (hn : n ≤ 32) : (x * 2 ^ (32 - n) % 4294967296) ||| (x / 2 ^ n) = rot x n := by
  have h1 : 4294967296 = 2 ^ n * 2 ^ (32 - n) := by rw [← Nat.pow_add, show n + (32 - n) = 32 by omega]
  have h2 : x / 2 ^ n < 2 ^ (32 - n) := by
    rw [Nat.div_lt_iff_lt_mul (Nat.two_pow_pos n), Nat.mul_comm, ← h1]
    exact hx
  have h3 : x * 2 ^ (32 - n) % 4294967296 = 2 ^ (32 - n) * (x % 2 ^ n) := by
    rw [h1, Nat.mul_mod_mul_right, Nat.mul_comm]
  rw [h3, ← Nat.two_pow_add_eq_or_of_lt h2, rot, Nat.add_comm, Nat.mul_comm (2 ^ (32 - n))]

set_option maxRecDepth 20000 in
theorem part_any (n : Nat) (w : World) (hn : n ≤ 32) :
    Calls Tryd.prog 58 #[.int .i64 n] w fun e w' => e = .returned (.int .u64 (2 ^ n : Nat)) ∧ w = w' := by
  go_enter Tryd.func58, Tryd.ntmps58
  go_wp2_with fail
  go_loop [3, 4] (fun v i => ∃ k u : Nat, k ≤ n ∧ i = .int .i64 k ∧ v = .int .u64 u ∧ u = 2 ^ k) (fun _ i => n - (intOf i).toNat)
  case atStart => exact ⟨0, 1, by omega, rfl, rfl, rfl⟩
  case round =>
    obtain ⟨k, u, hk, rfl, rfl, hu⟩ := hrel
    have hu2 : u ≤ 4294967296 := by
      rw [hu]
      exact Nat.le_trans (Nat.pow_le_pow_right (by decide) (show k ≤ 32 by omega)) (by decide)
    have hu' := Lib.hid hu
    clear hu
    by_cases hlt : k < n
    · go_wp2_with fail
      go_round
      case rel => exact ⟨k + 1, u * 2, by omega, by go_num, by go_num, by rw [hu'.out, Nat.pow_succ]⟩
      case measure => simp [intOf]; omega
    · go_wp2_with fail
      go_ret
      exact ⟨ret_int (congrArg (fun t : Nat => (t : Int)) (hu'.out.trans (by rw [show k = n by omega]))), rfl⟩

set_option maxRecDepth 20000 in
theorem right_any (x n : Nat) (w : World) (hx : x < 18446744073709551616) (hn : n ≤ 32) :
    Calls Tryd.prog 110 #[.int .u64 x, .int .i64 n] w fun e w' => e = .returned (.int .u64 (x / 2 ^ n : Nat)) ∧ w = w' := by
  have hp : 2 ^ n ≤ 4294967296 := Nat.le_trans (Nat.pow_le_pow_right (by decide) hn) (by decide)
  have hp0 := Nat.two_pow_pos n
  have hpart := fun w => part_any n w hn
  generalize 2 ^ n = p at hp hp0 hpart ⊢
  have hpart' := Lib.hid hpart
  clear hpart
  have hd : x / p < 18446744073709551616 := Nat.lt_of_le_of_lt (Nat.div_le_self _ _) hx
  go_enter Tryd.func110, Tryd.ntmps110
  go_wp2_with (go_at_call 58; refine (hpart'.out _).mono ?_; rintro e w' ⟨rfl, rfl⟩)
  go_ret
  refine ⟨ret_int ?_, rfl⟩
  have e : (x : Int) / (p : Int) = ((x / p : Nat) : Int) := by simp
  rw [e]
  generalize x / p = d at hd
  rw [IntKind.wrap_u64]
  omega

def pw2 (n : Nat) : Nat := 2 ^ n
theorem part2_any (n : Nat) (w : World) (hn : n ≤ 32) :
    Calls Tryd.prog 58 #[.int .i64 n] w fun e w' => e = .returned (.int .u64 (pw2 n : Nat)) ∧ w = w' := part_any n w hn

set_option maxRecDepth 20000 in
set_option maxHeartbeats 1000000 in
theorem refTurned_core (x n n2 dd mm : Nat) (w : World) (hn : n ≤ 31) (hn2 : n2 ≤ 32) (e1 : (32 : Int) - (n : Int) = (n2 : Int)) (hp0 : (0 : Int) < (pw2 n : Int)) (hp : (pw2 n : Int) ≤ 4294967296) (hx : x < 4294967296) (hR : dd + mm < 4294967296)
    (i1 : (x : Int) / (pw2 n : Int) = (dd : Int)) (i2 : ((x : Int) % (pw2 n : Int)) * (pw2 n2 : Int) = (mm : Int)) :
    Calls Tryd.prog 109 #[.int .u64 x, .int .i64 n] w fun e w' => e = .returned (.int .u64 (dd + mm : Nat)) ∧ ∃ m, w' = w.drewN m := by
  go_enter Tryd.func109, Tryd.ntmps109
  go_wp2_with fail
  go_quiet ((go_at_call 58; exact quiet_l (fun W => part2_any _ W (by omega))))
  go_wp2_with fail
  go_ret
  exact ⟨ret_int (by simp), nq, rfl⟩
theorem refTurned_any (x n : Nat) (w : World) (hx : x < 4294967296) (hn : n ≤ 31) (h0 : 1 ≤ n) :
    Calls Tryd.prog 109 #[.int .u64 x, .int .i64 n] w fun e w' => e = .returned (.int .u64 (rot x n : Nat)) ∧ ∃ m, w' = w.drewN m := by
  have hp : pw2 n ≤ 4294967296 := Nat.le_trans (Nat.pow_le_pow_right (by decide) (show n ≤ 32 by omega)) (by decide)
  have hp0 : 0 < pw2 n := Nat.two_pow_pos n
  have := rot_lt hx (show n ≤ 32 by omega)
  exact refTurned_core x n (32 - n) (x / pw2 n) (x % pw2 n * pw2 (32 - n)) w hn (by omega) (by omega) (by omega) (by omega) hx this (by simp) (by simp)

set_option maxRecDepth 20000 in
theorem three_any (x a b c : Nat) (w : World) (hx : x < 4294967296) (ha : a ≤ 31) (ha0 : 1 ≤ a) (hb : b ≤ 31) (hb0 : 1 ≤ b) (hc : c ≤ 31) (hc0 : 1 ≤ c) :
    Calls Tryd.prog 99 #[.int .u64 x, .int .i64 a, .int .i64 b, .int .i64 c] w fun e w' => e = .returned (.int .u64 (rot x a ^^^ rot x b ^^^ rot x c : Nat)) ∧ ∃ m, w' = w.drewN m := by
  have l1 := rot_lt hx (show a ≤ 32 by omega)
  have l2 := rot_lt hx (show b ≤ 32 by omega)
  have l3 := rot_lt hx (show c ≤ 32 by omega)
  have x1 := u64_xor_nat (rot x a) (rot x b) (by omega) (by omega)
  have l4 : rot x a ^^^ rot x b < 4294967296 := Nat.xor_lt_two_pow (n := 32) l1 l2
  have x2 := u64_xor_nat (rot x a ^^^ rot x b) (rot x c) (by omega) (by omega)
  go_enter Tryd.func99, Tryd.ntmps99
  go_wp2_with (go_at_call 109; refine (refTurned_any x _ _ hx (by omega) (by omega)).mono ?_; rintro e w' ⟨rfl, m, rfl⟩)
  go_ret
  exact ⟨rfl, _, rfl⟩

theorem or_cast (x K M r : Nat) (h : x * K % 4294967296 ||| x / M = r) (hM : x / M < 4294967296) : bits .or .u32 ((x : Int) * (K : Int) % 4294967296) ((x : Int) / (M : Int)) = (r : Nat) := by
  rw [← h, ← u32_or_nat _ _ (Nat.mod_lt _ (by decide)) hM, Int.natCast_emod, Int.natCast_mul, Int.natCast_ediv]
  rfl

set_option maxRecDepth 20000 in
theorem rotate_any (x n : Nat) (w : World) (hx : x < 4294967296) (hn : n = 2 ∨ n = 6 ∨ n = 7 ∨ n = 11 ∨ n = 13 ∨ n = 17 ∨ n = 18 ∨ n = 19 ∨ n = 22 ∨ n = 25) :
    Calls Tryd.prog 119 #[.int .u32 x, .int .i64 (-(n : Int))] w fun e w' => e = .returned (.int .u32 (rot x n : Nat)) ∧ w = w' := by
  have hk : bits .and .u64 (IntKind.u64.wrap (-(n : Int))) 31 = 32 - (n : Int) := by
    rcases hn with h | h | h | h | h | h | h | h | h | h <;> subst h <;> kernel_rfl
  have ho := rot_or hx (show n ≤ 32 by omega)
  have hl := rot_lt hx (show n ≤ 32 by omega)
  rcases hn with h | h | h | h | h | h | h | h | h | h <;> subst h
  all_goals simp only [Int.cast_ofNat_Int, Int.reduceSub] at hk
  all_goals simp only [Nat.reduceSub, Nat.reducePow] at ho
  all_goals go_enter Tryd.func119, Tryd.ntmps119
  all_goals go_wp2
  all_goals go_ret
  all_goals refine ⟨ret_int ?_, rfl⟩
  all_goals exact or_cast _ _ _ _ ho (Nat.lt_of_le_of_lt (Nat.div_le_self _ _) hx)

set_option maxRecDepth 20000 in
theorem turned_any (x n : Nat) (w : World) (hx : x < 4294967296) (hn : n = 2 ∨ n = 6 ∨ n = 7 ∨ n = 11 ∨ n = 13 ∨ n = 17 ∨ n = 18 ∨ n = 19 ∨ n = 22 ∨ n = 25) :
    Calls Tryd.prog 118 #[.int .u32 x, .int .i64 n] w fun e w' => e = .returned (.int .u32 (rot x n : Nat)) ∧ w = w' := by
  have hb : n ≤ 25 := by omega
  go_enter Tryd.func118, Tryd.ntmps118
  go_wp2_with fail
  refine (rotate_any x n w hx hn).mono ?_
  rintro e w' ⟨rfl, rfl⟩
  go_wp2_with fail
  go_ret
  exact ⟨rfl, rfl⟩
end Go.Proofs.YtkjndgapejbgcaaDoor

namespace Go.Proofs.YtkjndgapejbgcaaDoor.Sha

/-- The next word: of the block's bytes b, of the words that stand. -/
def sig0 (a : Nat) : Nat := rot a 7 ^^^ rot a 18 ^^^ a / 8
def sig1 (a : Nat) : Nat := rot a 17 ^^^ rot a 19 ^^^ a / 1024
def first (b : List Nat) (t : Nat) : Nat := ((b[4 * t]?.getD 0 * 256 + b[4 * t + 1]?.getD 0) * 256 + b[4 * t + 2]?.getD 0) * 256 + b[4 * t + 3]?.getD 0
def nextW (b ws : List Nat) (t : Nat) : Nat :=
  if t < 16 then first b t else (sig1 (ws[t - 2]?.getD 0) + ws[t - 7]?.getD 0 + sig0 (ws[t - 15]?.getD 0) + ws[t - 16]?.getD 0) % 4294967296
def wordsTo (b : List Nat) : Nat → List Nat
  | 0 => []
  | t + 1 => wordsTo b t ++ [nextW b (wordsTo b t) t]
theorem wordsTo_length (b : List Nat) (t : Nat) : (wordsTo b t).length = t := by
  induction t with
  | zero => rfl
  | succ t ih => simp [wordsTo, ih]
theorem wordsTo_take (b : List Nat) {s t : Nat} (h : s ≤ t) : (wordsTo b t).take s = wordsTo b s := by
  induction t with
  | zero =>
    obtain rfl : s = 0 := by omega
    rfl
  | succ t ih =>
    by_cases e : s = t + 1
    · subst e
      exact List.take_of_length_le (by rw [wordsTo_length]; omega)
    · rw [wordsTo, List.take_append_of_le_length (by rw [wordsTo_length]; omega)]
      exact ih (by omega)

theorem xor3_lt {a b c : Nat} (ha : a < 4294967296) (hb : b < 4294967296) (hc : c < 4294967296) : a ^^^ b ^^^ c < 4294967296 :=
  Nat.xor_lt_two_pow (n := 32) (Nat.xor_lt_two_pow (n := 32) ha hb) hc
theorem sig0_lt {a : Nat} (h : a < 4294967296) : sig0 a < 4294967296 := xor3_lt (rot_lt h (by omega)) (rot_lt h (by omega)) (Nat.lt_of_le_of_lt (Nat.div_le_self _ _) h)
theorem sig1_lt {a : Nat} (h : a < 4294967296) : sig1 a < 4294967296 := xor3_lt (rot_lt h (by omega)) (rot_lt h (by omega)) (Nat.lt_of_le_of_lt (Nat.div_le_self _ _) h)

def big0 (a : Nat) : Nat := rot a 2 ^^^ rot a 13 ^^^ rot a 22
def big1 (a : Nat) : Nat := rot a 6 ^^^ rot a 11 ^^^ rot a 25
def choose (e f g : Nat) : Nat := (e &&& f) ||| ((4294967295 - e) &&& g)
def most (a b c : Nat) : Nat := (a &&& b) ||| (a &&& c) ||| (b &&& c)
theorem most_xor (a b c : Nat) : (a &&& b) ^^^ (a &&& c) ^^^ (b &&& c) = most a b c := by
  apply Nat.eq_of_testBit_eq
  intro i
  simp only [most, Nat.testBit_xor, Nat.testBit_or, Nat.testBit_and]
  cases a.testBit i <;> cases b.testBit i <;> cases c.testBit i <;> rfl
theorem not_bit {e : Nat} (h : e < 4294967296) (i : Nat) : (4294967295 - e).testBit i = (decide (i < 32) && !e.testBit i) := by
  rw [show 4294967295 - e = 2 ^ 32 - (e + 1) by omega, Nat.testBit_two_pow_sub_succ (by omega)]
theorem choose_xor {e : Nat} (f g : Nat) (h : e < 4294967296) : (e &&& f) ^^^ ((4294967295 - e) &&& g) = choose e f g := by
  apply Nat.eq_of_testBit_eq
  intro i
  simp only [choose, Nat.testBit_xor, Nat.testBit_or, Nat.testBit_and, not_bit h]
  cases e.testBit i <;> cases f.testBit i <;> cases g.testBit i <;> cases decide (i < 32) <;> rfl

/-- A round: the numbers of the state, the word, what is added. -/
def xOf (s : List Nat) (w k : Nat) : Nat := s[7]?.getD 0 + big1 (s[4]?.getD 0) + choose (s[4]?.getD 0) (s[5]?.getD 0) (s[6]?.getD 0) + k + w
def yOf (s : List Nat) : Nat := big0 (s[0]?.getD 0) + most (s[0]?.getD 0) (s[1]?.getD 0) (s[2]?.getD 0)
def round (s : List Nat) (w k : Nat) : List Nat :=
  [(xOf s w k + yOf s) % 4294967296, s[0]?.getD 0, s[1]?.getD 0, s[2]?.getD 0, (s[3]?.getD 0 + xOf s w k) % 4294967296, s[4]?.getD 0, s[5]?.getD 0, s[6]?.getD 0]
def rounds (ws ks s : List Nat) : Nat → List Nat
  | 0 => s
  | t + 1 => round (rounds ws ks s t) (ws[t]?.getD 0) (ks[t]?.getD 0)
def blockL (ks s b : List Nat) : List Nat := (List.range 8).map fun i => (s[i]?.getD 0 + (rounds (wordsTo b 64) ks s 64)[i]?.getD 0) % 4294967296
end Go.Proofs.YtkjndgapejbgcaaDoor.Sha

namespace Go.Proofs.YtkjndgapejbgcaaDoor
open Go.RowKit

theorem elU : ElemOk Tryd.prog 122 45 (.int .u64 0) 1 8 := ⟨Tryd.underlying122, by kernel_rfl, rfl, by decide⟩
def u64s (l : List Nat) : List Value := l.map fun b : Nat => .int .u64 (b : Int)
theorem u64s_length (l : List Nat) : (u64s l).length = l.length := by simp [u64s]
theorem u64s_get (l : List Nat) (j : Nat) (h : j < l.length) : (u64s l)[j]? = some (.int .u64 ((l[j]?.getD 0 : Nat) : Int)) := by simp [u64s, h]
theorem u64s_snoc (l : List Nat) (x : Nat) : u64s (l ++ [x]) = u64s l ++ [.int .u64 (x : Int)] := by simp [u64s]
theorem u64_turn {w : World} {B e size n c : Nat} {A : Option Addr} {l : List Value} {x y : Int} (h : Own w B e size A n c (l ++ #[Value.int .u64 x].toList)) (hxy : x = y) : Own w B e size A n c (l ++ [.int .u64 y]) := by
  subst hxy
  exact h
theorem getD_lt {l : List Nat} {M : Nat} (hM : 0 < M) (h : ∀ b ∈ l, b < M) (k : Nat) : l[k]?.getD 0 < M := by
  rcases Nat.lt_or_ge k l.length with hk | hk
  · rw [List.getElem?_eq_getElem hk]
    exact h _ (List.getElem_mem hk)
  · rw [List.getElem?_eq_none hk]
    exact hM
theorem wordsTo_lt {b : List Nat} (hb : ∀ x ∈ b, x < 256) (t : Nat) : ∀ x ∈ Sha.wordsTo b t, x < 4294967296 := by
  induction t with
  | zero => intro x hx; cases hx
  | succ t ih =>
    intro x hx
    rw [Sha.wordsTo, List.mem_append] at hx
    rcases hx with hx | hx
    · exact ih x hx
    · simp only [List.mem_singleton] at hx
      subst hx
      unfold Sha.nextW
      split
      · have h1 := getD_lt (by decide) hb (4 * t)
        have h2 := getD_lt (by decide) hb (4 * t + 1)
        have h3 := getD_lt (by decide) hb (4 * t + 2)
        have h4 := getD_lt (by decide) hb (4 * t + 3)
        unfold Sha.first
        omega
      · exact Nat.mod_lt _ (by decide)

theorem xor_some {a b : Nat} (ha : a < 4294967296) (hb : b < 4294967296) : ∃ c : Nat, bits .xor .u64 (a : Int) (b : Int) = (c : Int) ∧ c < 4294967296 ∧ c = a ^^^ b :=
  ⟨a ^^^ b, u64_xor_nat a b (by omega) (by omega), Nat.xor_lt_two_pow (n := 32) ha hb, rfl⟩
theorem refTurned_some (x n : Nat) (hx : x < 4294967296) (hn : n ≤ 31) (h0 : 1 ≤ n) : ∃ r : Nat, r < 4294967296 ∧ r = rot x n ∧ ∀ w : World, Calls Tryd.prog 109 #[.int .u64 x, .int .i64 n] w fun e w' => e = .returned (.int .u64 (r : Nat)) ∧ ∃ m, w' = w.drewN m :=
  ⟨rot x n, rot_lt hx (by omega), rfl, fun w => refTurned_any x n w hx hn h0⟩
theorem right_some (x n : Nat) (hx : x < 4294967296) (hn : n ≤ 32) : ∃ r : Nat, r < 4294967296 ∧ r = x / 2 ^ n ∧ ∀ w : World, Calls Tryd.prog 110 #[.int .u64 x, .int .i64 n] w fun e w' => e = .returned (.int .u64 (r : Nat)) ∧ w = w' :=
  ⟨x / 2 ^ n, Nat.lt_of_le_of_lt (Nat.div_le_self _ _) hx, rfl, fun w => right_any x n w (by omega) hn⟩

/-- The first j bytes of a word, as a number. -/
def fpart (b : List Nat) (t : Nat) : Nat → Nat
  | 0 => 0
  | j + 1 => fpart b t j * 256 + b[4 * t + j]?.getD 0
theorem fpart_all (b : List Nat) (t : Nat) : fpart b t 4 = Sha.first b t := by simp [fpart, Sha.first]
theorem fpart_lt {b : List Nat} (hb : ∀ x ∈ b, x < 256) (t j : Nat) (hj : j ≤ 4) : fpart b t j < 4294967296 := by
  have h0 := getD_lt (by decide) hb (4 * t)
  have h1 := getD_lt (by decide) hb (4 * t + 1)
  have h2 := getD_lt (by decide) hb (4 * t + 2)
  have h3 := getD_lt (by decide) hb (4 * t + 3)
  rcases (show j = 0 ∨ j = 1 ∨ j = 2 ∨ j = 3 ∨ j = 4 by omega) with e | e | e | e | e <;> subst e <;> simp only [fpart, Nat.add_zero] <;> omega

set_option maxRecDepth 20000 in
set_option maxHeartbeats 2000000 in
theorem words_any (b : List Nat) (A : Option Addr) (c B : Nat) (w : World) (hb : ∀ x ∈ b, x < 256) (hn : b.length = 64) (hB : B ≤ w.heap.size) (h : Byt w B A b) :
    Calls Tryd.prog 98 #[.slice A 64 c] w fun e w' => (∃ A' c', e = .returned (.slice A' 64 c') ∧ Own w' w.heap.size 45 1 A' 64 c' (u64s (Sha.wordsTo b 64))) ∧ Below w.heap.size w w' := by
  have hb' := Lib.hid hb
  have hn' := Lib.hid hn
  have h' := Lib.hid h
  clear hb hn h
  go_enter Tryd.func98, Tryd.ntmps98
  go_wp2_with fail
  go_loopw [3, 4] (fun s i wr => ∃ (k : Nat) (A' : Option Addr) (c' : Nat), k ≤ 64 ∧ i = .int .i64 k ∧ s = .slice A' k c' ∧ Own wr w.heap.size 45 1 A' k c' (u64s (Sha.wordsTo b k)) ∧ Below w.heap.size w wr) (fun _ i _ => 64 - (intOf i).toNat)
  case atStart => exact ⟨0, none, 0, by omega, rfl, rfl, Own.nil _ _ _ _, Below.refl _ _⟩
  case round =>
    obtain ⟨k, A', c', hk, rfl, rfl, hown, hbel⟩ := hrel
    by_cases hlt : k < 64
    · by_cases h16 : k < 16
      · go_wp2_with fail
        go_loop [5, 6] (fun v i => ∃ j : Nat, j ≤ 4 ∧ i = .int .i64 j ∧ v = .int .u64 (fpart b k j : Nat)) (fun _ i => 4 - (intOf i).toNat)
        case atStart => exact ⟨0, by omega, rfl, rfl⟩
        case round =>
          obtain ⟨j, hj, rfl, rfl⟩ := hrel
          have hfl := fpart_lt hb'.out k j hj
          by_cases hj4 : j < 4
          · obtain ⟨bl, off, rfl, _, q⟩ := Rd.get (Rd.below h'.out (hbel.mono hB)) (k := 4 * k + j) (by rw [hn'.out]; omega)
            have hbb := getD_lt (by decide) hb'.out (4 * k + j)
            have hfs : fpart b k (j + 1) = fpart b k j * 256 + b[4 * k + j]?.getD 0 := rfl
            have hfs' := Lib.hid hfs
            clear hfs
            generalize b[4 * k + j]?.getD 0 = y at q hbb hfs'
            generalize fpart b k j = f at hfl hfs'
            go_wp2_with fail
            go_round
            case rel => exact ⟨j + 1, by omega, by go_num, by rw [hfs'.out]; go_num⟩
            case measure => simp [intOf]; omega
          · have e4 : fpart b k j = Sha.nextW b (Sha.wordsTo b k) k := by
              rw [show j = 4 by omega, fpart_all, Sha.nextW, if_pos h16]
            rw [e4] at hfl ⊢
            have hw : Hid (u64s (Sha.wordsTo b (k + 1)) = u64s (Sha.wordsTo b k) ++ [.int .u64 ((Sha.nextW b (Sha.wordsTo b k) k : Nat) : Int)]) := Lib.hid (by rw [Sha.wordsTo, u64s_snoc])
            clear e4
            generalize Sha.nextW b (Sha.wordsTo b k) k = x at hfl hw ⊢
            go_wp2_with (at_builtin; refine wpList_app1 elU _ #[_] rfl rfl _ _ rfl rfl hown rfl (by intro u hu; simp at hu; subst hu; rfl) (by unfold maxLen; omega) (by omega) hbel.size (k + 1) rfl _ rfl ?_; intro A2 c2 w2 hown2 _ hb2)
            go_roundw
            case rel => exact ⟨k + 1, A2, c2, by omega, by go_num, rfl, by rw [hw.out]; exact hown2, hbel.trans hb2⟩
            case measure => simp [intOf]; omega
      · obtain ⟨g, rfl⟩ := hown.head (by omega)
        have hx : Hid (Sha.nextW b (Sha.wordsTo b k) k = (Sha.sig1 ((Sha.wordsTo b k)[k - 2]?.getD 0) + (Sha.wordsTo b k)[k - 7]?.getD 0 + Sha.sig0 ((Sha.wordsTo b k)[k - 15]?.getD 0) + (Sha.wordsTo b k)[k - 16]?.getD 0) % 4294967296) := Lib.hid (by rw [Sha.nextW, if_neg h16])
        have hw : Hid (u64s (Sha.wordsTo b (k + 1)) = u64s (Sha.wordsTo b k) ++ [.int .u64 ((Sha.nextW b (Sha.wordsTo b k) k : Nat) : Int)]) := Lib.hid (by rw [Sha.wordsTo, u64s_snoc])
        have cellAt : ∀ j, j < k → wr.cell? ⟨g, j, none⟩ = some (.int .u64 (((Sha.wordsTo b k)[j]?.getD 0 : Nat) : Int)) := fun j hj => (hown.cell j (by omega)).trans (u64s_get _ j (by rw [Sha.wordsTo_length]; exact hj))
        have q2 := cellAt (k - 2) (by omega)
        have q7 := cellAt (k - 7) (by omega)
        have q15 := cellAt (k - 15) (by omega)
        have q16 := cellAt (k - 16) (by omega)
        have wl := wordsTo_lt hb'.out k
        have l2 := getD_lt (by decide) wl (k - 2)
        have l7 := getD_lt (by decide) wl (k - 7)
        have l15 := getD_lt (by decide) wl (k - 15)
        have l16 := getD_lt (by decide) wl (k - 16)
        have e2 : (k : Int) - 2 = ((k - 2 : Nat) : Int) := by omega
        have e7 : (k : Int) - 7 = ((k - 7 : Nat) : Int) := by omega
        have e15 : (k : Int) - 15 = ((k - 15 : Nat) : Int) := by omega
        have e16 : (k : Int) - 16 = ((k - 16 : Nat) : Int) := by omega
        have m2 : k - 2 < k := by omega
        have m7 : k - 7 < k := by omega
        have m15 : k - 15 < k := by omega
        have m16 : k - 16 < k := by omega
        clear cellAt wl
        generalize (Sha.wordsTo b k)[k - 2]?.getD 0 = x2 at *
        generalize (Sha.wordsTo b k)[k - 7]?.getD 0 = x7 at *
        generalize (Sha.wordsTo b k)[k - 15]?.getD 0 = x15 at *
        generalize (Sha.wordsTo b k)[k - 16]?.getD 0 = x16 at *
        generalize k - 2 = j2 at *
        generalize k - 7 = j7 at *
        generalize k - 15 = j15 at *
        generalize k - 16 = j16 at *
        obtain ⟨r1, lr1, v1, c1⟩ := refTurned_some x15 7 l15 (by omega) (by omega)
        obtain ⟨r2, lr2, v2, c2⟩ := refTurned_some x15 18 l15 (by omega) (by omega)
        obtain ⟨r3, lr3, v3, c3⟩ := right_some x15 3 l15 (by omega)
        obtain ⟨r4, f1, lr4, v4⟩ := xor_some lr1 lr2
        obtain ⟨s0, f2, ls0, v5⟩ := xor_some lr4 lr3
        obtain ⟨p1, lp1, u1, d1⟩ := refTurned_some x2 17 l2 (by omega) (by omega)
        obtain ⟨p2, lp2, u2, d2⟩ := refTurned_some x2 19 l2 (by omega) (by omega)
        obtain ⟨p3, lp3, u3, d3⟩ := right_some x2 10 l2 (by omega)
        obtain ⟨p4, f3, lp4, u4⟩ := xor_some lp1 lp2
        obtain ⟨s1, f4, ls1, u5⟩ := xor_some lp4 lp3
        have hs0 : Hid (s0 = Sha.sig0 x15) := Lib.hid (by rw [v5, v4, v3, v2, v1]; rfl)
        have hs1 : Hid (s1 = Sha.sig1 x2) := Lib.hid (by rw [u5, u4, u3, u2, u1]; rfl)
        have c1' := Lib.hid c1
        have c2' := Lib.hid c2
        have c3' := Lib.hid c3
        have d1' := Lib.hid d1
        have d2' := Lib.hid d2
        have d3' := Lib.hid d3
        clear v1 v2 v3 v4 v5 u1 u2 u3 u4 u5 c1 c2 c3 d1 d2 d3
        have hown' := Lib.hid hown
        have hbel' := Lib.hid hbel
        clear hown hbel
        go_wp2_with fail
        refine (c1'.out _).mono ?_
        rintro e w' ⟨rfl, m1, rfl⟩
        go_wp2_with fail
        refine (c2'.out _).mono ?_
        rintro e w' ⟨rfl, m2, rfl⟩
        go_wp2_with fail
        refine (c3'.out _).mono ?_
        rintro e w' ⟨rfl, rfl⟩
        go_wp2_with fail
        refine (d1'.out _).mono ?_
        rintro e w' ⟨rfl, m3, rfl⟩
        go_wp2_with fail
        refine (d2'.out _).mono ?_
        rintro e w' ⟨rfl, m4, rfl⟩
        go_wp2_with fail
        refine (d3'.out _).mono ?_
        rintro e w' ⟨rfl, rfl⟩
        go_wp2_with fail
        go_quiet (fail)
        have hval : Hid (((s1 : Int) + x7 + s0 + x16) % 4294967296 = ((Sha.nextW b (Sha.wordsTo b k) k : Nat) : Int)) := Lib.hid (by rw [hx.out, ← hs1.out, ← hs0.out]; omega)
        clear q2 q7 q15 q16 f1 f2 f3 f4 c1' c2' c3' d1' d2' d3'
        go_wp2_with (at_builtin; refine wpList_app1 elU _ #[_] rfl rfl _ _ rfl rfl (hown'.out.drewN _) rfl (by intro u hu; simp at hu; subst hu; rfl) (by unfold maxLen; omega) (by omega) (by simpa using hbel'.out.size) (k + 1) rfl _ rfl ?_; intro A2 c2 w2 hown2 _ hb2)
        have hB2 := (below_drewN hbel'.out _).trans hb2
        go_roundw
        case rel => exact ⟨k + 1, A2, c2, by omega, by go_num, rfl, by rw [hw.out]; exact u64_turn hown2 hval.out, hB2⟩
        case measure => simp [intOf]; omega
    · obtain rfl : k = 64 := by omega
      go_wp2_with fail
      go_ret
      exact ⟨⟨A', c', rfl, hown⟩, hbel⟩
end Go.Proofs.YtkjndgapejbgcaaDoor
