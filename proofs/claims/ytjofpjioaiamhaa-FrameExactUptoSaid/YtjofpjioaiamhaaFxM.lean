/- FrameExact: the document's sum, head and Pack. -/
import Derived.Test.YtjofpjioaiamhaaFxP
namespace Go.Proofs.Ytjofpjioaiamhaa
open Go.RowKit

theorem and_one {x : Nat} (h : x < 4294967296) : bits .and .u32 (x : Int) 1 = ((x % 2 : Nat) : Int) := by
  have h1 := u32_and_nat x 1 h (by omega)
  rw [Nat.and_one_is_mod] at h1
  exact h1
set_option maxRecDepth 20000 in
set_option maxHeartbeats 1000000 in
theorem turned1_any (r b : Nat) (w : World) (hr : r < 4294967296) (hb : b < 256) :
    Calls Try.prog 36 #[.int .u32 r, .int .u8 b] w fun e w' => e = .returned (.int .u32 (Crc.step r b : Nat)) ∧ w' = w := by
  have hx0 : r ^^^ b < 4294967296 := Nat.xor_lt_two_pow (n := 32) hr (by omega)
  have e0 : bits .xor .u32 (r : Int) (b : Int) = ((r ^^^ b : Nat) : Int) := u32_xor_nat r b hr (by omega)
  have hS : Hid (∀ _ : Unit, Crc.step r b = Crc.lfn 8 (r ^^^ b)) := Lib.hid fun _ => rfl
  generalize Crc.step r b = R at hS ⊢
  generalize r ^^^ b = X at hx0 e0 hS
  go_enter Try.func36, Try.ntmps36
  go_wp2_with fail
  clear e0
  go_loop [0, 5] (fun r j => ∃ i : Nat, i ≤ 8 ∧ j = .int .i64 i ∧ r = .int .u32 (Crc.lfn i X : Nat)) (fun _ j => 8 - (intOf j).toNat)
  case atStart => exact ⟨0, by omega, rfl, rfl⟩
  case round =>
    obtain ⟨i, hi, rfl, rfl⟩ := hrel
    by_cases hlt : i < 8
    · have hx := Crc.lfn_lt i (x := X) hx0
      have hs : Hid (∀ _ : Unit, Crc.lfn (i + 1) X = Crc.lf (Crc.lfn i X)) := Lib.hid fun _ => Crc.lfn_step i X
      generalize Crc.lfn i X = Y at hx hs
      have e1 := and_one hx
      have h3 := Lib.hid (show (Y : Int) / 2 = ((Y / 2 : Nat) : Int) by omega)
      rcases Nat.mod_two_eq_zero_or_one Y with h4 | h4
      · rw [h4] at e1
        have hl : Hid (∀ _ : Unit, Crc.lf Y = Y / 2) := Lib.hid fun _ => by unfold Crc.lf; rw [if_neg (by omega)]
        go_wp2_with fail
        go_round
        case rel => exact ⟨i + 1, by omega, by go_num, by rw [hs.out (), hl.out (), ← h3.out]⟩
        case measure => simp [intOf]; omega
      · rw [h4] at e1
        have hl : Hid (∀ _ : Unit, Crc.lf Y = (Y / 2) ^^^ 2197175160) := Lib.hid fun _ => by unfold Crc.lf; rw [if_pos h4]
        have e2 : bits .xor .u32 ((Y : Int) / 2) 2197175160 = (((Y / 2) ^^^ 2197175160 : Nat) : Int) := by
          rw [h3.out]
          exact u32_xor_nat (Y / 2) 2197175160 (by omega) (by decide)
        go_wp2_with fail
        go_round
        case rel => exact ⟨i + 1, by omega, by go_num, by rw [hs.out (), hl.out ()]⟩
        case measure => simp [intOf]; omega
    · obtain rfl : i = 8 := by omega
      go_wp2_with fail
      go_ret
      exact ⟨ret_int (by rw [hS.out ()]), rfl⟩

set_option maxRecDepth 20000 in
set_option maxHeartbeats 1000000 in
theorem more2_any (s : Nat) (l : List Nat) (A : Option Addr) (n c B : Nat) (w : World) (hs : s < 4294967296) (hl : ∀ b ∈ l, b < 256) (hn : l.length = n) (hnm : n ≤ 4611686018427387904) (h : Byt w B A l) :
    Calls Try.prog 29 #[.int .u32 s, .slice A n c] w fun e w' => e = .returned (.int .u32 (Crc.more s l : Nat)) ∧ w' = w := by
  have hl' := Lib.hid hl
  have hn' := Lib.hid hn
  have h' := Lib.hid h
  clear hl hn h
  go_enter Try.func29, Try.ntmps29
  go_wp2_with fail
  rw [u32_flip hs]
  go_loop [5, 6] (fun r i => ∃ k : Nat, k ≤ n ∧ i = .int .i64 k ∧ r = .int .u32 (Crc.run (Crc.flip s) (l.take k) : Nat)) (fun _ i => n - (intOf i).toNat)
  case atStart => exact ⟨0, by omega, rfl, rfl⟩
  case round =>
    obtain ⟨k, hk, rfl, rfl⟩ := hrel
    have hrun : Crc.run (Crc.flip s) (l.take k) < 4294967296 := Crc.run_lt (Crc.flip_lt s) (fun b hb => hl'.out b (List.mem_of_mem_take hb))
    by_cases hlt : k < n
    · obtain ⟨b, off, rfl, _, q⟩ := Rd.get h'.out (by rw [hn'.out]; exact hlt)
      have e1 := Lib.hid (bytes_take (l := l) (k := k) (by rw [hn'.out]; exact hlt))
      have hbb := bytes_getD hl'.out k
      generalize l[k]?.getD 0 = y at q e1 hbb
      generalize hR : Crc.run (Crc.flip s) (l.take k) = R at hrun
      have hR' := Lib.hid hR
      clear hR
      go_wp2_with (go_at_call 36; refine (turned1_any _ _ _ hrun hbb).mono ?_; rintro e w' ⟨rfl, rfl⟩)
      go_round
      case rel => exact ⟨k + 1, by omega, by go_num, by rw [e1.out, Crc.run_snoc, hR'.out]⟩
      case measure => simp [intOf]; omega
    · rw [show k = n by omega] at hrun ⊢
      go_wp2_with fail
      go_ret
      refine ⟨ret_int ?_, rfl⟩
      rw [u32_flip hrun]
      unfold Crc.more
      rw [← hn'.out, List.take_length]

set_option maxRecDepth 20000 in
theorem crc2_any (l : List Nat) (A : Option Addr) (n c B : Nat) (w : World) (hl : ∀ b ∈ l, b < 256) (hn : l.length = n) (hnm : n ≤ 4611686018427387904) (h : Byt w B A l) :
    Calls Try.prog 28 #[.slice A n c] w fun e w' => e = .returned (.int .u32 (Crc.more 0 l : Nat)) ∧ w' = w := by
  have hl' := Lib.hid hl
  have hn' := Lib.hid hn
  have h' := Lib.hid h
  clear hl hn h
  go_enter Try.func28, Try.ntmps28
  go_wp2_with fail
  refine (more2_any 0 l A n c B w (by decide) hl'.out hn'.out hnm h'.out).mono ?_
  rintro e w' ⟨rfl, rfl⟩
  go_wp2_with fail
  go_ret
  exact ⟨rfl, rfl⟩

theorem i64_and255 (n : Nat) (hn : n ≤ 65535) : bits .and .i64 (n : Int) 255 = ((n % 256 : Nat) : Int) := by
  have hx : n &&& 255 = n % 256 := Nat.and_two_pow_sub_one_eq_mod n 8
  show IntKind.i64.wrap ((BitVec.ofInt 64 (n : Int) &&& BitVec.ofInt 64 ((255 : Nat) : Int)).toNat : Int) = _
  rw [BitVec.toNat_and, ofInt_u64 n (by omega), ofInt_u64 255 (by omega), IntKind.wrap_i64, hx]
  omega
set_option maxRecDepth 20000 in
theorem head2_any (n : Nat) (w : World) (hn : n ≤ 65535) :
    Calls Try.prog 37 #[.int .i64 n] w fun e w' => (∃ g, e = .returned (.slice (some ⟨g, 0, none⟩) 6 6) ∧ Own w' w.heap.size 5 1 (some ⟨g, 0, none⟩) 6 6 (u8s (headL n))) ∧ Below w.heap.size w w' := by
  have a1 := i64_and255 n hn
  have a2 := i64_and255 (65535 - n) (by omega)
  have a3 : ((65535 - n : Nat) : Int) = 65535 - (n : Int) := by omega
  rw [a3] at a2
  obtain ⟨v1, hv1⟩ : ∃ v : Int, ((n % 256 : Nat) : Int) = v := ⟨_, rfl⟩
  obtain ⟨v2, hv2⟩ : ∃ v : Int, (((65535 - n) % 256 : Nat) : Int) = v := ⟨_, rfl⟩
  rw [hv1] at a1
  rw [hv2] at a2
  have hv1' := Lib.hid hv1
  have hv2' := Lib.hid hv2
  have r1 : 0 ≤ v1 ∧ v1 < 256 := by omega
  have r2 : 0 ≤ v2 ∧ v2 < 256 := by omega
  obtain ⟨r11, r12⟩ := r1
  obtain ⟨r21, r22⟩ := r2
  clear hv1 hv2 a3
  go_enter Try.func37, Try.ntmps37
  go_wp2_with fail
  go_ret
  have hB : Below w.heap.size w (w.alloc (.cells #[.int .u8 199, .int .u8 v1, .int .u8 ((n : Int) / 256), .int .u8 v2, .int .u8 ((65535 - (n : Int)) / 256), .int .u8 1] 5)) := (Below.refl _ w).alloc (Nat.le_refl _) _
  have ho := Own.lit w w.heap.size 5 1 6 #[.int .u8 199, .int .u8 v1, .int .u8 ((n : Int) / 256), .int .u8 v2, .int .u8 ((65535 - (n : Int)) / 256), .int .u8 1] rfl (by unfold maxLen; omega) (Nat.le_refl _)
  refine ⟨⟨w.heap.size, rfl, ?_⟩, hB⟩
  have e : u8s (headL n) = [.int .u8 199, .int .u8 v1, .int .u8 ((n : Int) / 256), .int .u8 v2, .int .u8 ((65535 - (n : Int)) / 256), .int .u8 1] := by
    have b1 := hv1'.out
    have b2 := hv2'.out
    simp only [u8s, headL, List.map_cons, List.map_nil, List.cons.injEq, Value.int.injEq, true_and, and_true]
    omega
  rw [e]
  exact ho
end Go.Proofs.Ytjofpjioaiamhaa
