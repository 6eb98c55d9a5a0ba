/- The document's word, Places, Add, Has. -/
import Derived.Test.YtlghgfnkckaebaaWRf0
import Derived.BigQuiet
import Derived.BigRegion
namespace Go.Proofs.Ytlghgfnkckaebaa
open Go.RowKit
set_option linter.unusedSimpArgs false
set_option linter.unusedVariables false

theorem leN_drop (l : List Nat) (m x : Nat) (h : l[m]? = some x) : leN (l.drop m) = x + 256 * leN (l.drop (m + 1)) := by
  obtain ⟨hlt, e⟩ := List.getElem?_eq_some_iff.1 h
  rw [List.drop_eq_getElem_cons hlt, leN, e]
set_option maxRecDepth 20000 in
set_option maxHeartbeats 1000000 in
theorem word_any (w : World) (b off c : Nat) (l : List Nat) (hl : l.length = 8) (h256 : ∀ x ∈ l, x < 256) (hc : ∀ j, j < 8 → w.cell? ⟨b, off + j, none⟩ = some (.int .u8 ((l[j]?.getD 0 : Nat) : Int))) :
    Calls Try.prog 78 #[.slice (some ⟨b, off, none⟩) 8 c] w fun e w' => e = .returned (.int .u64 ((leN l : Nat) : Int)) ∧ w = w' := by
  have h256' := Lib.hid h256
  have hc' := Lib.hid hc
  have hl' := Lib.hid hl
  obtain ⟨T, hT⟩ : ∃ T, Hid (leN l = T) := ⟨_, Lib.hid rfl⟩
  rw [hT.out]
  clear h256 hc hl
  go_enter Try.func78, Try.ntmps78
  go_wp2_with fail
  go_loopw [3, 4] (fun vv iv wr => ∃ (q : Int) (m v : Nat), m ≤ 8 ∧ q = (m : Int) - 1 ∧ vv = .int .u64 (v : Int) ∧ iv = .int .i64 q ∧ Hid (leN (l.drop m) = v) ∧ wr = w) (fun _ iv _ => (intOf iv + 1).toNat)
  case atStart => exact ⟨_, 8, 0, by omega, rfl, rfl, rfl, Lib.hid (by rw [List.drop_of_length_le (by rw [hl'.out]; exact Nat.le_refl _)]; rfl), rfl⟩
  case round =>
    obtain ⟨q, m, v, hm8, hq, rfl, rfl, hv, rfl⟩ := hrel
    by_cases hm : 0 < m
    · obtain ⟨m', rfl⟩ : ∃ m', m = m' + 1 := ⟨m - 1, by omega⟩
      obtain rfl : q = (m' : Int) := by omega
      obtain ⟨x, hx⟩ : ∃ x, Hid (l[m']? = some x) := ⟨_, Lib.hid (List.getElem?_eq_getElem (by rw [hl'.out]; omega))⟩
      have cj := hc'.out m' (by omega)
      rw [hx.out, Option.getD_some] at cj
      have hx256 : x < 256 := h256'.out x (List.mem_of_getElem? hx.out)
      have hvlt : v < 72057594037927936 := by
        rw [← hv.out]
        have h1 := leN_lt (l.drop (m' + 1)) (fun y hy => h256'.out y (List.mem_of_mem_drop hy))
        have h2 : 256 ^ (l.drop (m' + 1)).length ≤ 256 ^ 7 := Nat.pow_le_pow_right (by decide) (by rw [List.length_drop, hl'.out]; omega)
        have h3 : (256 : Nat) ^ 7 = 72057594037927936 := by decide
        omega
      have hnx := Lib.hid (leN_drop l m' x hx.out)
      clear hq hm
      go_wp2_with fail
      go_roundw
      case rel => exact ⟨_, m', v * 256 + x, by omega, rfl, by go_num, by go_num, Lib.hid (by rw [hnx.out, hv.out]; omega), trivial⟩
      case measure => simp [intOf]
    · obtain rfl : m = 0 := by omega
      obtain rfl : q = -1 := by omega
      have hvT : Hid (v = T) := Lib.hid (by rw [← hv.out, List.drop_zero, hT.out])
      clear hv hq hm
      go_wp2_with fail
      go_ret
      exact ⟨ret_int (by first | rw [hvT.out] | rw [hvT]), rfl⟩
def PlcP (w : World) (l : List Nat) (e : Ending) (w' : World) : Prop := (∃ A' c', e = .returned (.slice A' l.length c') ∧ Own w' w.heap.size 3 1 A' l.length c' (i64s l)) ∧ Below w.heap.size w w'
set_option maxRecDepth 20000 in
set_option maxHeartbeats 2000000 in
theorem places_any {w : World} {B g a0 c h : Nat} {l : List Nat} (f : RF w B g a0 c l h) (kb : List Nat) (hk : kb.length = 32) (h256 : ∀ x ∈ kb, x < 256) (kv : Array Value) (hkv : (u8s kb).toArray = kv) :
    Calls Try.prog 75 #[.pointer (some ⟨g, 0, none⟩), .agg kv] w (PlcP w (placesQ (k1Q kb) (k2Q kb) (64 * l.length) h)) := by
  have h16 := RFlt.h16 f
  obtain ⟨K, hK⟩ : ∃ K, w.heap.size = K := ⟨_, rfl⟩
  obtain ⟨w1, hw1⟩ : ∃ w1, w.alloc (.cells kv 51) = w1 := ⟨_, rfl⟩
  have hb1 : Hid (Below w.heap.size w w1) := Lib.hid (by rw [← hw1]; exact (Below.refl _ _).alloc (Nat.le_refl _) _)
  have f1 := f.below hb1.out
  have hK1 : w1.heap[K]? = some (.cells kv 51 (0, 0)) := by rw [← hw1, ← hK]; exact heap_alloc_new w _
  have hcell : ∀ j, j < 32 → w1.cell? ⟨K, j, none⟩ = some (.int .u8 ((kb[j]?.getD 0 : Nat) : Int)) := fun j hj => by
    rw [cell_of_row _ _ j _ _ _ hK1, ← hkv]
    simp [u8s, show j < kb.length by omega]
  have hd8 := word_any w1 K 0 32 (kb.take 8) (by rw [List.length_take, hk]; rfl) (fun x hx => h256 x (List.mem_of_mem_take hx)) (fun j hj => by rw [Nat.zero_add, hcell j (by omega), List.getElem?_take_of_lt hj])
  have hd16 := word_any w1 K 8 24 ((kb.drop 8).take 8) (by rw [List.length_take, List.length_drop, hk]; rfl) (fun x hx => h256 x (List.mem_of_mem_drop (List.mem_of_mem_take hx))) (fun j hj => by rw [hcell (8 + j) (by omega), List.getElem?_take_of_lt hj, List.getElem?_drop])
  have l8 : ∀ r : List Nat, (∀ x ∈ r, x < 256) → r.length ≤ 8 → leN r < 18446744073709551616 := fun r hr h8 => by
    have q1 := leN_lt r hr
    have q2 : 256 ^ r.length ≤ 256 ^ 8 := Nat.pow_le_pow_right (by decide) h8
    have q3 : (256 : Nat) ^ 8 = 18446744073709551616 := by decide
    omega
  obtain ⟨a, ha⟩ : ∃ a, k1Q kb = a := ⟨_, rfl⟩
  obtain ⟨b, hb⟩ : ∃ b, k2Q kb = b := ⟨_, rfl⟩
  have ha64 : a < 18446744073709551616 := by rw [← ha]; exact l8 _ (fun x hx => h256 x (List.mem_of_mem_take hx)) (by rw [List.length_take]; omega)
  have hb64 : b < 18446744073709551616 := by rw [← hb]; exact l8 _ (fun x hx => h256 x (List.mem_of_mem_drop (List.mem_of_mem_take hx))) (by rw [List.length_take]; omega)
  have h8 := Lib.hid hd8
  have h9 := Lib.hid hd16
  rw [show leN (kb.take 8) = k1Q kb from rfl, ha] at h8
  rw [show leN ((kb.drop 8).take 8) = k2Q kb from rfl, hb] at h9
  rw [ha, hb]
  have n1 := f.n1
  have nm := f.nm
  obtain ⟨N, hN⟩ : ∃ N, 64 * l.length = N := ⟨_, rfl⟩
  have c0 := f1.c0
  rw [hN] at c0 ⊢
  have hN1 : 64 ≤ N := by omega
  have hN2 : N ≤ 1048576 := by omega
  have ff := Lib.hid f
  have c1 := f1.c1
  have hw1' := Lib.hid hw1
  have hN' := Lib.hid hN
  have hkb := Lib.hid hK1
  unfold PlcP
  clear hcell hd8 hd16 l8 ha hb hN f f1 hK1 hk h256 hkv n1 nm c0
  go_enter Try.func75, Try.ntmps75
  go_wp2_with (first
    | (go_at_call 78; refine h8.out.mono ?_; rintro e w9 ⟨rfl, rfl⟩; clear h8)
    | (go_at_call 78; refine h9.out.mono ?_; rintro e w9 ⟨rfl, rfl⟩; clear h9))
  go_loopw [7, 8] (fun ov iv wr => ∃ (i : Nat) (A' : Option Addr) (c' : Nat), i ≤ h ∧ ov = .slice A' i c' ∧ iv = .int .i64 (i : Int) ∧ Hid (Own wr w.heap.size 3 1 A' i c' (i64s (placesQ a b N i))) ∧ Hid (Below w.heap.size w wr)) (fun _ iv _ => h - (intOf iv).toNat)
  case atStart => exact ⟨0, none, 0, by omega, rfl, rfl, Lib.hid (Own.nil _ _ _ _), by first | exact hb1 | (rw [hw1]; exact hb1)⟩
  case round =>
    clear c1
    obtain ⟨i, A', c', hi, rfl, rfl, ho, hbel⟩ := hrel
    have fr := Lib.hid (ff.out.below hbel.out)
    have c1 := fr.out.c1
    by_cases hlt : i < h
    · have c0 := fr.out.c0
      rw [hN'.out] at c0
      obtain ⟨p, hp⟩ : ∃ p, i * b = p := ⟨_, rfl⟩
      have hip : (i : Int) * (b : Int) = (p : Int) := by rw [← hp]; simp
      obtain ⟨r, hr⟩ : ∃ r, (a + p) % 18446744073709551616 % N = r := ⟨_, rfl⟩
      have hrN : r < N := by rw [← hr]; exact Nat.mod_lt _ (by omega)
      have hat : Hid (atQ a b N i = r) := Lib.hid (by unfold atQ avQ; rw [hp, hr])
      obtain ⟨t, ht⟩ : ∃ t, (a + p) % 18446744073709551616 = t := ⟨_, rfl⟩
      rw [ht] at hr
      obtain ⟨p2, hp2⟩ : ∃ p2, p % 18446744073709551616 = p2 := ⟨_, rfl⟩
      have d1 : IntKind.u64.wrap (p : Int) = (p2 : Int) := by rw [IntKind.wrap_u64]; omega
      have d1b : IntKind.u64.wrap ((a : Int) + (p2 : Int)) = (t : Int) := by rw [IntKind.wrap_u64]; omega
      have ht64 : t < 18446744073709551616 := by omega
      have d2 : (t : Int).tmod (N : Int) = (r : Int) := by rw [Int.tmod_eq_emod_of_nonneg (by omega), ← hr]; simp
      have d3 : wrap64 (r : Int) = (r : Int) := by unfold wrap64; omega
      have hsz : Hid (w.heap.size ≤ wr.heap.size) := Lib.hid hbel.out.size
      clear hp hr ht hp2
      go_wp2_with (first | (at_builtin; refine wpList_app1 elI _ #[_] rfl rfl _ _ rfl rfl ho.out rfl (by intro u hu; simp at hu; subst hu; rfl) (by unfold maxLen; omega) (by omega) hsz.out (i + 1) (by omega) (i64s (placesQ a b N (i + 1))) (by rw [placesQ_next, hat.out, i64s_append]; rfl) ?_; intro A7 c7 w7 o7 at7 b7; have o7' := Lib.hid o7; have b7' := Lib.hid (hbel.out.trans b7); clear o7 at7 b7))
      go_roundw
      case rel => exact ⟨i + 1, A7, c7, by omega, rfl, by go_num, o7', b7'⟩
      case measure => simp [intOf]; omega
    · obtain rfl : i = h := by omega
      go_wp2_with fail
      go_ret
      refine ⟨⟨A', c', by rw [placesQ_length]; rfl, ?_⟩, hbel.out⟩
      rw [placesQ_length]
      exact ho.out
end Go.Proofs.Ytlghgfnkckaebaa
