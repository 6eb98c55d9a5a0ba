/- OnesCount64, Ones. -/
import Derived.Test.YtlghgfnkckaebaaWPop
import Derived.Test.YtlghgfnkckaebaaWNo
import Derived.Laws.BitsAll
namespace Go.Proofs.Ytlghgfnkckaebaa
open Go.RowKit
set_option linter.unusedSimpArgs false
set_option linter.unusedVariables false

theorem i64_and_natO (a b : Nat) (ha : a < 9223372036854775808) (hb : b < 9223372036854775808) : bits .and .i64 (a : Int) (b : Int) = ((a &&& b : Nat) : Int) := by
  have hx : a &&& b < 2 ^ 63 := Nat.and_lt_two_pow _ (by omega)
  show IntKind.i64.wrap ((BitVec.ofInt 64 (a : Int) &&& BitVec.ofInt 64 (b : Int)).toNat : Int) = _
  rw [BitVec.toNat_and, ofInt_u64 a (by omega), ofInt_u64 b (by omega), IntKind.wrap_i64]
  omega
set_option maxRecDepth 20000 in
set_option maxHeartbeats 1000000 in
theorem onesCount_any (x : Nat) (hx : x < 18446744073709551616) (w : World) : Calls Try.prog 60 #[.int .u64 (x : Int)] w fun e w' => e = .returned (.int .i64 ((Lib.onesCount x : Nat) : Int)) ∧ w = w' := by
  have hT := Lib.hid (pop_swar x hx)
  obtain ⟨T, hTT⟩ : ∃ T, Lib.onesCount x = T := ⟨_, rfl⟩
  rw [hTT] at hT ⊢
  clear hTT
  obtain ⟨a, ha⟩ : ∃ a, x / 2 = a := ⟨_, rfl⟩
  have d1 : (x : Int) / 2 = (a : Int) := by omega
  have d2 : bits .and .u64 (a : Int) 6148914691236517205 = ((a &&& 6148914691236517205 : Nat) : Int) := u64_and_nat a 6148914691236517205 (by omega) (by decide)
  have d3 : bits .and .u64 (x : Int) 6148914691236517205 = ((x &&& 6148914691236517205 : Nat) : Int) := u64_and_nat x 6148914691236517205 hx (by decide)
  have i1 : a &&& 6148914691236517205 ≤ 6148914691236517205 := Nat.and_le_right
  have i2 : x &&& 6148914691236517205 ≤ 6148914691236517205 := Nat.and_le_right
  have hy : Hid ((a &&& 6148914691236517205) + (x &&& 6148914691236517205) = w1 x) := Lib.hid (by rw [← ha]; rfl)
  generalize a &&& 6148914691236517205 = a1 at d2 i1 hy
  generalize x &&& 6148914691236517205 = a2 at d3 i2 hy
  obtain ⟨y, hyy⟩ : ∃ y, a1 + a2 = y := ⟨_, rfl⟩
  have d4 : (a1 : Int) + (a2 : Int) = (y : Int) := by omega
  have hy2 : y < 18446744073709551616 := by omega
  have hyw : Hid (w1 x = y) := Lib.hid (hy.out ▸ hyy)
  obtain ⟨b, hb⟩ : ∃ b, y / 4 = b := ⟨_, rfl⟩
  have d5 : (y : Int) / 4 = (b : Int) := by omega
  have d6 : bits .and .u64 (b : Int) 3689348814741910323 = ((b &&& 3689348814741910323 : Nat) : Int) := u64_and_nat b 3689348814741910323 (by omega) (by decide)
  have d7 : bits .and .u64 (y : Int) 3689348814741910323 = ((y &&& 3689348814741910323 : Nat) : Int) := u64_and_nat y 3689348814741910323 hy2 (by decide)
  have i3 : b &&& 3689348814741910323 ≤ 3689348814741910323 := Nat.and_le_right
  have i4 : y &&& 3689348814741910323 ≤ 3689348814741910323 := Nat.and_le_right
  have hz : Hid ((b &&& 3689348814741910323) + (y &&& 3689348814741910323) = w2 x) := Lib.hid (by unfold w2 p2; rw [hyw.out, hb])
  generalize b &&& 3689348814741910323 = b1 at d6 i3 hz
  generalize y &&& 3689348814741910323 = b2 at d7 i4 hz
  obtain ⟨z, hzz⟩ : ∃ z, b1 + b2 = z := ⟨_, rfl⟩
  have d8 : (b1 : Int) + (b2 : Int) = (z : Int) := by omega
  have hz2 : z ≤ 7378697629483820646 := by omega
  have hzw : Hid (w2 x = z) := Lib.hid (hz.out ▸ hzz)
  obtain ⟨c, hc⟩ : ∃ c, z / 16 = c := ⟨_, rfl⟩
  have d9 : (z : Int) / 16 = (c : Int) := by omega
  obtain ⟨d, hd⟩ : ∃ d, c + z = d := ⟨_, rfl⟩
  have d10 : (c : Int) + (z : Int) = (d : Int) := by omega
  have hd2 : d < 18446744073709551616 := by omega
  have d11 : bits .and .u64 (d : Int) 1085102592571150095 = ((d &&& 1085102592571150095 : Nat) : Int) := u64_and_nat d 1085102592571150095 hd2 (by decide)
  have hq : d &&& 1085102592571150095 = w3 x := by unfold w3 p3; rw [hzw.out, hc, hd]
  rw [hq] at d11
  have hq2 := w3_lt x hx
  obtain ⟨q, hqq⟩ : ∃ q, w3 x = q := ⟨_, rfl⟩
  rw [hqq] at d11 hq2
  have hT' : Hid (foldP q = T) := Lib.hid (by rw [← hT.out, hqq])
  obtain ⟨e, he⟩ : ∃ e, q + q / 256 = e := ⟨_, rfl⟩
  have d12 : (q : Int) + (q : Int) / 256 = (e : Int) := by omega
  obtain ⟨f, hf⟩ : ∃ f, e + e / 65536 = f := ⟨_, rfl⟩
  have d13 : (e : Int) + (e : Int) / 65536 = (f : Int) := by omega
  obtain ⟨g, hg⟩ : ∃ g, f + f / 4294967296 = g := ⟨_, rfl⟩
  have d14 : (f : Int) + (f : Int) / 4294967296 = (g : Int) := by omega
  have he2 : e < 1157442765409226768 := by omega
  have hf2 : f < 1157442765409226768 * 2 := by omega
  have hg2 : g < 1157442765409226768 * 4 := by omega
  have hgT : Hid (g % 128 = T) := Lib.hid (by
    have := hT'.out
    unfold foldP at this
    simp only at this
    rw [he, hf, hg] at this
    exact this)
  have d15 : bits .and .i64 (g : Int) 127 = (T : Int) := by
    have h1 := i64_and_natO g 127 (by omega) (by decide)
    have h2 : g &&& 127 = T := by rw [← hgT.out]; exact Nat.and_two_pow_sub_one_eq_mod g 7
    rw [h2] at h1
    exact h1
  clear ha hyy hb hzz hc hd hq hqq he hf hg hT hT' hy hz hyw hzw
  go_enter Try.func60, Try.ntmps60
  go_wp2_with fail
  go_ret
  exact ⟨rfl, rfl⟩
/-- How many bits of some words are set. -/
def popL (l : List Nat) : Nat := (l.map Lib.onesCount).sum
theorem popL_take (l : List Nat) (k x : Nat) (h : l[k]? = some x) : popL (l.take (k + 1)) = popL (l.take k) + Lib.onesCount x := by
  unfold popL
  rw [List.take_add_one, h, List.map_append, List.sum_append]
  simp
theorem popL_le : ∀ l : List Nat, popL l ≤ 64 * l.length
  | [] => Nat.le_refl _
  | x :: l => by
    have h1 := popL_le l
    have h2 : Lib.onesCount x ≤ 64 := pop_le 64 x
    show Lib.onesCount x + popL l ≤ 64 * (l.length + 1)
    omega
theorem popL_take_le (l : List Nat) (k : Nat) : popL (l.take k) ≤ 64 * l.length := Nat.le_trans (popL_le _) (by rw [List.length_take]; omega)
set_option maxRecDepth 20000 in
set_option maxHeartbeats 1000000 in
theorem ones_any {w : World} {B g h c : Nat} {A : Option Addr} {l : List Nat} (f : Flt w B g A c l h) : Calls Try.prog 28 #[.pointer (some ⟨g, 0, none⟩)] w fun e w' => e = .returned (.int .i64 ((popL l : Nat) : Int)) ∧ w = w' := by
  have f' := Lib.hid f
  have c0 := f.c0
  have hth := Lib.hid (there_any f)
  have nm := f.nm
  obtain ⟨n, hn⟩ : ∃ n, l.length = n := ⟨_, rfl⟩
  rw [hn] at c0 nm
  have hn' := Lib.hid hn
  obtain ⟨a, hA, _, hal, _, hcel⟩ := f.at
  subst hA
  have hcel' := Lib.hid hcel
  obtain ⟨T, hT⟩ : ∃ T, Hid (popL l = T) := ⟨_, Lib.hid rfl⟩
  rw [hT.out]
  clear f hcel hn
  go_enter Try.func28, Try.ntmps28
  go_wp2_with (go_at_call 48; refine hth.out.mono ?_; rintro e w2 ⟨rfl, rfl⟩)
  go_loopw [3, 13] (fun nv iv wr => ∃ (k s : Nat), k ≤ n ∧ nv = .int .i64 (s : Int) ∧ iv = .int .i64 (k : Int) ∧ Hid (popL (l.take k) = s) ∧ wr = w) (fun _ iv _ => n - (intOf iv).toNat)
  case atStart => exact ⟨0, 0, by omega, rfl, rfl, Lib.hid rfl, rfl⟩
  case round =>
    obtain ⟨k, s, hk, rfl, rfl, hs, rfl⟩ := hrel
    by_cases hlt : k < n
    · obtain ⟨x, hx⟩ : ∃ x, Hid (l[k]? = some x) := ⟨_, Lib.hid (List.getElem?_eq_getElem (by rw [hn'.out]; exact hlt))⟩
      have hxl : Hid (x < 18446744073709551616) := Lib.hid (f'.out.lt x (List.mem_of_getElem? hx.out))
      have cj : wr.cell? ⟨a, k, none⟩ = some (.int .u64 (x : Int)) := hcel'.out k x hx.out
      have hs1 := Lib.hid (popL_take l k x hx.out)
      have hsb : s + Lib.onesCount x ≤ 1048576 := by
        have := popL_take_le l (k + 1)
        rw [hs1.out, hs.out, hn'.out] at this
        omega
      obtain ⟨y, hy⟩ : ∃ y, Lib.onesCount x = y := ⟨_, rfl⟩
      have hc := Lib.hid (fun W => onesCount_any x hxl.out W)
      rw [hy] at hc hs1 hsb
      clear hy
      go_wp2_with (go_at_call 60; refine (hc.out _).mono ?_; rintro e w2 ⟨rfl, rfl⟩)
      go_roundw
      case rel => exact ⟨k + 1, s + y, by omega, by go_num, by go_num, Lib.hid (by rw [hs1.out, hs.out]), trivial⟩
      case measure => simp [intOf]; omega
    · have hsT : s = T := by
        rw [← hs.out, List.take_of_length_le (by rw [hn'.out]; omega), hT.out]
      go_wp2_with fail
      go_ret
      exact ⟨ret_int (by rw [hsT]), rfl⟩
end Go.Proofs.Ytlghgfnkckaebaa
