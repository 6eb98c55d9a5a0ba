/- What is laid behind n bytes: the two functions Tail. -/
import Derived.Test.YtlolnpilpdkbkaaDoorProg
import Derived.Test.YtlolnpilpdkbkaaDoorOwn
namespace Go.Proofs.YtlolnpilpdkbkaaDoor
open Go.RowKit

/-- How many noughts. -/
def noughts (n : Nat) : Nat := (119 - n % 64) % 64
/-- Byte i of the number of bits, the highest first. -/
def bitLen (n : Nat) : Nat := n * 8 % 18446744073709551616
def dv (T i : Nat) : Nat := T / 256 ^ i
def bitByte (n i : Nat) : Nat := dv (bitLen n) (7 - i) % 256
def tailTo (k : Nat) : List Nat := 128 :: List.replicate k 0
/-- The bytes of a tail, as far as i of the last eight. -/
def tailL (n i : Nat) : List Nat := tailTo (noughts n) ++ (List.range i).map (bitByte n)
def tailOf (n : Nat) : List Nat := tailL n 8

theorem noughts_lt (n : Nat) : noughts n < 64 := Nat.mod_lt _ (by decide)
theorem tailL_length (n i : Nat) : (tailL n i).length = noughts n + 1 + i := by simp [tailL, tailTo]; omega
theorem tailOf_length (n : Nat) : (tailOf n).length = noughts n + 9 := by rw [tailOf, tailL_length]
theorem tailL_succ (n i : Nat) : u8s (tailL n (i + 1)) = u8s (tailL n i) ++ [.int .u8 (bitByte n i)] := by
  simp [tailL, u8s, List.range_succ]
theorem tailTo_succ (k : Nat) : u8s (tailTo (k + 1)) = u8s (tailTo k) ++ [.int .u8 0] := by
  simp [tailTo, u8s, List.replicate_succ']

theorem elByte : ElemOk Tryd.prog 22 5 (.int .u8 0) 1 1 := ⟨Tryd.underlying22, by kernel_rfl, rfl, by decide⟩

theorem byte_turn {w : World} {B e size n c : Nat} {A : Option Addr} {l : List Value} {x y : Int} (h : Own w B e size A n c (l ++ #[Value.int .u8 x].toList)) (hxy : x = y) : Own w B e size A n c (l ++ [.int .u8 y]) := by
  subst hxy
  exact h
theorem pow_turn (k : Nat) : (2 : Nat) ^ (8 * k) = 256 ^ k := Nat.pow_mul 2 8 k
theorem bits_nat (n : Nat) : IntKind.u64.wrap ((n : Int) * 8) = (bitLen n : Nat) := by
  rw [IntKind.wrap_u64]
  unfold bitLen
  omega
theorem bitLen_lt (n : Nat) : bitLen n < 18446744073709551616 := Nat.mod_lt _ (by decide)
theorem dv_lt {T : Nat} (h : T < 18446744073709551616) (i : Nat) : dv T i < 18446744073709551616 := Nat.lt_of_le_of_lt (Nat.div_le_self _ _) h
theorem dv_zero (T : Nat) : dv T 0 = T := by simp [dv]
theorem dv_succ (T i : Nat) : (dv T i : Int) / 256 = (dv T (i + 1) : Nat) := by
  have h2 : dv T (i + 1) = dv T i / 256 := by unfold dv; rw [Nat.pow_succ, ← Nat.div_div_eq_div_mul]
  rw [h2]
  omega
theorem bit_shr (n k : Nat) (hk : k < 8) : (bitLen n : Int) / 2 ^ (56 - 8 * k) % 256 = bitByte n k := by
  have h1 : 56 - 8 * k = 8 * (7 - k) := by omega
  have h2 : ((2 : Int) ^ (8 * (7 - k))) = ((2 ^ (8 * (7 - k)) : Nat) : Int) := by rw [Int.natCast_pow]; rfl
  rw [h1, h2]
  unfold bitByte dv
  rw [← pow_turn]
  omega

set_option maxRecDepth 20000 in
set_option maxHeartbeats 1000000 in
theorem tail_any (n : Nat) (w : World) (hn : n < 18446744073709551616) :
    Calls Tryd.prog 39 #[.int .u64 n] w fun e w' => (∃ A c, e = .returned (.slice A (noughts n + 9) c) ∧ Own w' w.heap.size 5 1 A (noughts n + 9) c (u8s (tailOf n))) ∧ Below w.heap.size w w' := by
  have hz := noughts_lt n
  have hz2 : ((128 - ((n : Int) % 64 + 1 + 8)) % 64) = noughts n := by unfold noughts; omega
  go_enter Tryd.func39, Tryd.ntmps39
  go_wp2_with (at_make; refine wpList_mk elByte w rfl _ _ rfl rfl rfl (noughts n + 1) (noughts n + 9) (by omega) (by omega) (by omega) (by omega) (by unfold maxLen; omega) (Nat.le_refl _) ?_; intro w1 hown1 hg1 hb1 hs1; rw [made_one _ rfl] at hown1; have hf := hown1.frozen 0; have hc := hown1.cell 0 (by omega); rw [List.replicate_succ, List.getElem?_cons_zero] at hc)
  have hown2 := hown1.set 0 (.int .u8 128)
  have hb2 : Below w.heap.size w (w1.setCell ⟨w.heap.size, 0, none⟩ (.int .u8 128)) := hb1.trans (grown_below (hown1.set_grown 0 (.int .u8 128)) (by omega) (by intro k hk; cases hk; exact Nat.le_refl _))
  have hl : (List.replicate (noughts n + 1) (Value.int .u8 0)).set 0 (.int .u8 128) = u8s (tailL n 0) := by simp [List.replicate_succ, tailL, tailTo, u8s]
  rw [hl] at hown2
  clear hl hf hc hown1 hb1
  rw [bits_nat]
  go_loopw [5, 26] (fun s i wr => ∃ (k : Nat) (A : Option Addr) (c : Nat), k ≤ 8 ∧ i = .int .i64 k ∧ s = .slice A (noughts n + 1 + k) c ∧ Own wr w.heap.size 5 1 A (noughts n + 1 + k) c (u8s (tailL n k)) ∧ Below w.heap.size w wr) (fun _ i _ => 8 - (intOf i).toNat)
  case atStart => exact ⟨0, _, _, by omega, rfl, rfl, hown2, hb2⟩
  case round =>
    obtain ⟨k, A, c, hk, rfl, rfl, hown, hbel⟩ := hrel
    by_cases hlt : k < 8
    · go_wp2_with (at_builtin; go_loud (refine wpList_app1 elByte _ #[_] rfl rfl _ _ rfl rfl hown rfl (by intro u hu; simp at hu; subst hu; rfl) (by unfold maxLen; omega) (by omega) hbel.size (noughts n + 1 + (k + 1)) rfl _ rfl ?_); intro A' c' w' hown' _ hb')
      go_roundw
      case rel => exact ⟨k + 1, A', c', by omega, by go_num, rfl, by rw [tailL_succ]; exact byte_turn hown' (bit_shr n k hlt), hbel.trans hb'⟩
      case measure => simp [intOf]; omega
    · obtain rfl : k = 8 := by omega
      go_wp2_with fail
      go_ret
      exact ⟨⟨A, c, rfl, hown⟩, hbel⟩

set_option maxRecDepth 20000 in
set_option maxHeartbeats 1000000 in
theorem refTail_any (n : Nat) (w : World) (hn : n < 18446744073709551616) :
    Calls Tryd.prog 31 #[.int .u64 n] w fun e w' => (∃ A c, e = .returned (.slice A (noughts n + 9) c) ∧ Own w' w.heap.size 5 1 A (noughts n + 9) c (u8s (tailOf n))) ∧ Below w.heap.size w w' := by
  have hz := noughts_lt n
  have hb0 : Below w.heap.size w (w.alloc (.cells #[.int .u8 128] 5)) := (Below.refl _ w).alloc (Nat.le_refl _) _
  have hown0 : Own (w.alloc (.cells #[.int .u8 128] 5)) w.heap.size 5 1 (some ⟨w.heap.size, 0, none⟩) 1 1 (u8s (tailTo 0)) := Own.lit w w.heap.size 5 1 1 #[.int .u8 128] rfl (by unfold maxLen; omega) (Nat.le_refl _)
  go_enter Tryd.func31, Tryd.ntmps31
  go_wp2_with fail
  go_loopw [3] (fun s wr => ∃ (k : Nat) (A : Option Addr) (c : Nat), k ≤ noughts n ∧ s = .slice A (k + 1) c ∧ Own wr w.heap.size 5 1 A (k + 1) c (u8s (tailTo k)) ∧ Below w.heap.size w wr) (fun s _ => noughts n + 1 - (match s with | .slice _ m _ => m | _ => 0))
  case atStart => exact ⟨0, _, _, by omega, rfl, hown0, hb0⟩
  case round =>
    clear hown0 hb0
    obtain ⟨k, A, c, hk, rfl, hown, hbel⟩ := hrel
    by_cases hlt : k < noughts n
    · have hne : ¬ ((n : Int) % 64 + (k + 1) + 8) % 64 = 0 := by unfold noughts at hlt hk; omega
      go_wp2_with (at_builtin; go_loud (refine wpList_app1 elByte _ #[_] rfl rfl _ _ rfl rfl hown rfl (by intro u hu; simp at hu; subst hu; rfl) (by unfold maxLen; omega) (by omega) hbel.size (k + 1 + 1) rfl _ rfl ?_); intro A' c' w' hown' _ hb')
      go_roundw
      case rel => exact ⟨k + 1, A', c', by omega, rfl, by rw [tailTo_succ]; exact hown', hbel.trans hb'⟩
      case measure => simp; omega
    · obtain rfl : k = noughts n := by omega
      have hne : ((n : Int) % 64 + (noughts n + 1) + 8) % 64 = 0 := by unfold noughts; omega
      go_wp2_with fail
      rw [bits_nat]
      go_loopw [3, 5] (fun s i wr => ∃ (k : Nat) (A : Option Addr) (c : Nat), k ≤ 8 ∧ i = .int .i64 (7 - k) ∧ s = .slice A (noughts n + 1 + k) c ∧ Own wr w.heap.size 5 1 A (noughts n + 1 + k) c (u8s (tailL n k)) ∧ Below w.heap.size w wr) (fun _ i _ => (1 + intOf i).toNat)
      case atStart => exact ⟨0, A, c, by omega, rfl, rfl, by simpa [tailL] using hown, hbel⟩
      case round =>
        clear hown hbel hk hlt hne
        obtain ⟨k, A, c, hk, rfl, rfl, hown, hbel⟩ := hrel
        by_cases hlt : k < 8
        · go_wp2_with fail
          have hbl := bitLen_lt n
          go_loop [6, 7] (fun v j => ∃ (i : Nat), i ≤ 7 - k ∧ j = .int .i64 i ∧ v = .int .u64 (dv (bitLen n) i : Nat)) (fun _ j => 8 - (intOf j).toNat)
          case atStart => exact ⟨0, by omega, rfl, by rw [dv_zero]⟩
          case round =>
            obtain ⟨i, hi, rfl, rfl⟩ := hrel
            have hdv := dv_lt hbl i
            by_cases hlt2 : i < 7 - k
            · go_wp2_with fail
              go_round
              case rel => exact ⟨i + 1, by omega, by go_num, by rw [dv_succ]⟩
              case measure => simp [intOf]; omega
            · obtain rfl : i = 7 - k := by omega
              go_wp2_with (at_builtin; go_loud (refine wpList_app1 elByte _ #[_] rfl rfl _ _ rfl rfl hown rfl (by intro u hu; simp at hu; subst hu; rfl) (by unfold maxLen; omega) (by omega) hbel.size (noughts n + 1 + (k + 1)) rfl _ rfl ?_); intro A' c' w' hown' _ hb')
              go_roundw
              case rel => exact ⟨k + 1, A', c', by omega, by go_num, rfl, by rw [tailL_succ]; exact byte_turn hown' rfl, hbel.trans hb'⟩
              case measure => simp [intOf]; omega
        · obtain rfl : k = 8 := by omega
          go_wp2_with fail
          go_ret
          exact ⟨⟨A, c, rfl, hown⟩, hbel⟩
end Go.Proofs.YtlolnpilpdkbkaaDoor
