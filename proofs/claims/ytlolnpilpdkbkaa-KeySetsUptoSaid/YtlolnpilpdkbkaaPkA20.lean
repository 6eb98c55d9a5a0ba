/- The document's sets: Union, Both, Minus. (Printed by tools/gensn.py.) -/
import Derived.Test.YtlolnpilpdkbkaaPkA19

namespace Go.Proofs.Ytlolnpilpdkbkaa
open Go.RowKit Go.Maps
set_option linter.unusedSimpArgs false
set_option linter.unusedVariables false

set_option maxRecDepth 100000 in
set_option maxHeartbeats 4000000 in
theorem rUnion_any (w : World) (qa ca : Nat) (Aa : Option Addr) (ka : List (List Nat)) (ha : RSet w qa Aa ca ka) (hra : Rise32 ka) (qb cb : Nat) (Ab : Option Addr) (kb : List (List Nat)) (hb : RSet w qb Ab cb kb) (hrb : Rise32 kb) (hla : ka.length ≤ 1048576) (hlb : kb.length ≤ 1048576) :
    Calls Try.prog 49 #[.pointer (some ⟨qa, 0, none⟩), .pointer (some ⟨qb, 0, none⟩)] w (RNewP w (insAll kb (insAll ka []))) := by
  have hi32 : Hid ((Try.prog.info? 25).map (·.size) = some 32) := Lib.hid (by kernel_rfl)
  have ha' := Lib.hid ha
  have hb' := Lib.hid hb
  have hka := Lib.hid hra.ok
  have hkb := Lib.hid hrb.ok
  obtain ⟨na, hna⟩ : ∃ n, ka.length = n := ⟨_, rfl⟩
  obtain ⟨nb, hnb⟩ : ∃ n, kb.length = n := ⟨_, rfl⟩
  have hna' := Lib.hid hna
  have hnb' := Lib.hid hnb
  have hXr := Lib.hid (hb'.out.row hkb.out)
  rw [hna] at hla
  rw [hnb] at hlb
  obtain ⟨Q, hQ⟩ : ∃ Q, RNewP w (insAll kb (insAll ka [])) = Q := ⟨_, rfl⟩
  have hfin : Hid (∀ W s, w.heap.size ≤ s → RNI w s (insAll kb (insAll ka [])) W → Q (.returned (.pointer (some ⟨s, 0, none⟩))) W) := Lib.hid fun W s hs h => by
    rw [← hQ]
    obtain ⟨h1, A, c, h2⟩ := h
    exact ⟨s, A, c, rfl, h2, h1, hs⟩
  rw [hQ]
  have cA := ha.cel hna
  have hNw := Lib.hid (rNew_any w Aa ka na ca hna (by omega) (ha'.out.row hka.out))
  clear ha hb hra hrb hna hnb hQ
  go_enter Try.func49, Try.ntmps49
  go_wp2_with (go_at_call 22; refine hNw.out.mono ?_; rintro e w1 ⟨s, As, cs, rfl, h5, b5, hs5⟩; have h0 : Hid (RNI w s (insAll ka []) w1) := Lib.hid ⟨b5, As, cs, h5⟩; have hs' := Lib.hid hs5; clear h5 b5 hs5 hNw)
  clear cA
  go_loopw [6] (fun iv wr => ∃ i : Nat, i ≤ nb ∧ iv = .int .i64 (i : Int) ∧ Hid (RNI w s (insAll (kb.take i) (insAll ka [])) wr)) (fun iv _ => nb - (intOf iv).toNat)
  case atStart => exact ⟨0, by omega, rfl, h0⟩
  case round =>
    clear h0
    obtain ⟨i, hi, rfl, hI⟩ := hrel
    have cX := (hb'.out.below hI.out.1).cel hnb'.out
    by_cases hlt : i < nb
    · obtain ⟨x, hx⟩ : ∃ x, kb[i]? = some x := ⟨_, List.getElem?_eq_getElem (by rw [hnb'.out]; exact hlt)⟩
      obtain ⟨hk, b, off, rfl, hbl, hrg⟩ := hXr.out i x hx
      have hrk : Hid (∀ W, Below w.heap.size w W → W.rangeAt b (off + i * 32) (u8s x)) := Lib.hid fun W hW => rangeAt_below hW hbl hrg
      have hx32 : Hid ((u8s x).length = 32) := Lib.hid (by simp [u8s, hk.1])
      have hC := Lib.hid (RNI.call (ks := insAll (kb.take i) (insAll ka [])) hs'.out (Rise32.insAll (fun z hz => hkb.out z (List.mem_of_mem_take hz)) (Rise32.insAll hka.out Rise32.nil)) (by have h1 := len_insAll (kb.take i) (insAll ka []); have h2 := len_insAll ka []; have h3 := List.length_take_le' i kb; have h4 := hna'.out; have h5 := hnb'.out; simp only [List.length_nil] at h1 h2; omega) x hk)
      have htk : Hid (insK x (insAll (kb.take i) (insAll ka [])) = insAll (kb.take (i + 1)) (insAll ka [])) := Lib.hid (by rw [List.take_add_one, hx, Option.toList_some, insAll_snoc])
      clear hx hk hbl hrg
      go_wp2_with (first
        | (refine wpList_load_mid rfl 25 _ rfl b (off + i * 32) rfl (u8s x) _ (hrk.out _ hI.out.1) Try.underlying25 rfl (by rw [hx32.out]; exact hi32.out) ?_)
        | (go_at_call 38; refine (hC.out _ hI.out).mono ?_; rintro e w5 ⟨⟨bb, rfl⟩, h5⟩; have h5' := Lib.hid h5; clear h5 hC))
      go_roundw
      case rel => exact ⟨i + 1, by omega, by go_num, Lib.hid (by rw [← htk.out]; exact h5'.out)⟩
      case measure => simp [intOf]; omega
    · have hf := Lib.hid (hfin.out wr s hs'.out (by have := hI.out; rwa [List.take_of_length_le (by rw [hnb'.out]; omega)] at this))
      clear hI
      go_wp2_with fail
      exact hf.out
set_option maxRecDepth 100000 in
set_option maxHeartbeats 4000000 in
theorem rBoth_any (w : World) (qa ca : Nat) (Aa : Option Addr) (ka : List (List Nat)) (ha : RSet w qa Aa ca ka) (hra : Rise32 ka) (qb cb : Nat) (Ab : Option Addr) (kb : List (List Nat)) (hb : RSet w qb Ab cb kb) (hrb : Rise32 kb) (hla : ka.length ≤ 1048576) (hlb : kb.length ≤ 1048576) :
    Calls Try.prog 50 #[.pointer (some ⟨qa, 0, none⟩), .pointer (some ⟨qb, 0, none⟩)] w (RNewP w (takeK (fun z => decide (z ∈ kb)) ka [])) := by
  have hi32 : Hid ((Try.prog.info? 25).map (·.size) = some 32) := Lib.hid (by kernel_rfl)
  have ha' := Lib.hid ha
  have hb' := Lib.hid hb
  have hka := Lib.hid hra.ok
  have hkb := Lib.hid hrb.ok
  obtain ⟨na, hna⟩ : ∃ n, ka.length = n := ⟨_, rfl⟩
  obtain ⟨nb, hnb⟩ : ∃ n, kb.length = n := ⟨_, rfl⟩
  have hna' := Lib.hid hna
  have hnb' := Lib.hid hnb
  have hXr := Lib.hid (ha'.out.row hka.out)
  rw [hna] at hla
  rw [hnb] at hlb
  obtain ⟨Q, hQ⟩ : ∃ Q, RNewP w (takeK (fun z => decide (z ∈ kb)) ka []) = Q := ⟨_, rfl⟩
  have hfin : Hid (∀ W s, w.heap.size ≤ s → RNI w s (takeK (fun z => decide (z ∈ kb)) ka []) W → Q (.returned (.pointer (some ⟨s, 0, none⟩))) W) := Lib.hid fun W s hs h => by
    rw [← hQ]
    obtain ⟨h1, A, c, h2⟩ := h
    exact ⟨s, A, c, rfl, h2, h1, hs⟩
  rw [hQ]
  obtain ⟨s, hs⟩ : ∃ s, w.heap.size = s := ⟨_, rfl⟩
  obtain ⟨w1, hw1⟩ : ∃ w1, w.alloc (.cells #[.slice none 0 0] 67) = w1 := ⟨_, rfl⟩
  have h0 : Hid (RNI w s [] w1) := Lib.hid (by
    rw [← hw1, ← hs]
    exact ⟨(Below.refl _ _).alloc (Nat.le_refl _) _, none, 0, heap_alloc_new w _, Own.nil _ _ _ _⟩)
  have hs' : Hid (w.heap.size ≤ s) := Lib.hid (by omega)
  have hsz : w.heap.size = s := hs
  clear ha hb hra hrb hna hnb hQ hs
  go_enter Try.func50, Try.ntmps50
  go_wp2_with fail
  clear hw1
  go_loopw [6] (fun iv wr => ∃ i : Nat, i ≤ na ∧ iv = .int .i64 (i : Int) ∧ Hid (RNI w s (takeK (fun z => decide (z ∈ kb)) (ka.take i) []) wr)) (fun iv _ => na - (intOf iv).toNat)
  case atStart => exact ⟨0, by omega, rfl, Lib.hid (by simpa [takeK, insAll] using h0.out)⟩
  case round =>
    clear h0
    obtain ⟨i, hi, rfl, hI⟩ := hrel
    have cX := (ha'.out.below hI.out.1).cel hna'.out
    by_cases hlt : i < na
    · obtain ⟨x, hx⟩ : ∃ x, ka[i]? = some x := ⟨_, List.getElem?_eq_getElem (by rw [hna'.out]; exact hlt)⟩
      obtain ⟨hk, b, off, rfl, hbl, hrg⟩ := hXr.out i x hx
      have hrk : Hid (∀ W, Below w.heap.size w W → W.rangeAt b (off + i * 32) (u8s x)) := Lib.hid fun W hW => rangeAt_below hW hbl hrg
      have hx32 : Hid ((u8s x).length = 32) := Lib.hid (by simp [u8s, hk.1])
      have hC := Lib.hid (RNI.call (ks := takeK (fun z => decide (z ∈ kb)) (ka.take i) []) hs'.out (takeK_rise (fun z hz => hka.out z (List.mem_of_mem_take hz)) Rise32.nil) (by have h1 := len_insAll ((ka.take i).filter (fun z => decide (z ∈ kb))) []; have h2 := List.length_filter_le (fun z => decide (z ∈ kb)) (ka.take i); have h3 := List.length_take_le' i ka; have h4 := hna'.out; simp only [List.length_nil] at h1 h2; unfold takeK; omega) x hk)
      have hHs := Lib.hid (rHas_any wr qb cb Ab kb (hb'.out.below hI.out.1) hkb.out (by rw [hnb'.out]; omega) x hk)
      obtain ⟨tb, htb⟩ : ∃ tb, decide (x ∈ kb) = tb := ⟨_, rfl⟩
      rw [htb] at hHs
      have htk : Hid (takeK (fun z => decide (z ∈ kb)) (ka.take (i + 1)) [] = if tb = true then insK x (takeK (fun z => decide (z ∈ kb)) (ka.take i) []) else takeK (fun z => decide (z ∈ kb)) (ka.take i) []) := Lib.hid (by rw [List.take_add_one, hx, Option.toList_some, takeK_snoc, htb])
      clear hx hk hbl hrg htb
      cases tb
      · have hle := Lib.hid (htk.out.trans (if_neg (by simp)))
        go_wp2_with (first
          | (refine wpList_load_mid rfl 25 _ rfl b (off + i * 32) rfl (u8s x) _ (hrk.out _ hI.out.1) Try.underlying25 rfl (by rw [hx32.out]; exact hi32.out) ?_)
          | (go_at_call 40; refine hHs.out.mono ?_; rintro e w5 ⟨rfl, h5⟩; have hI5 := Lib.hid (hI.out.keep h5); have cX := (ha'.out.below hI5.out.1).cel hna'.out; clear h5 hHs))
        go_roundw
        case rel => exact ⟨i + 1, by omega, by go_num, Lib.hid (by rw [hle.out]; exact hI5.out)⟩
        case measure => simp [intOf]; omega
      · have hle := Lib.hid (htk.out.trans (if_pos (by simp)))
        go_wp2_with (first
          | (refine wpList_load_mid rfl 25 _ rfl b (off + i * 32) rfl (u8s x) _ (hrk.out _ hI.out.1) Try.underlying25 rfl (by rw [hx32.out]; exact hi32.out) ?_)
          | (go_at_call 40; refine hHs.out.mono ?_; rintro e w5 ⟨rfl, h5⟩; have hI5 := Lib.hid (hI.out.keep h5); have cX := (ha'.out.below hI5.out.1).cel hna'.out; clear h5 hHs)
          | (refine wpList_load_mid rfl 25 _ rfl b (off + i * 32) rfl (u8s x) _ (hrk.out _ hI5.out.1) Try.underlying25 rfl (by rw [hx32.out]; exact hi32.out) ?_)
          | (go_at_call 38; refine (hC.out _ hI5.out).mono ?_; rintro e w6 ⟨⟨bb, rfl⟩, h6⟩; have h6' := Lib.hid h6; clear h6 hC))
        go_roundw
        case rel => exact ⟨i + 1, by omega, by go_num, Lib.hid (by rw [hle.out]; exact h6'.out)⟩
        case measure => simp [intOf]; omega
    · have hf := Lib.hid (hfin.out wr s hs'.out (by have := hI.out; rwa [List.take_of_length_le (by rw [hna'.out]; omega)] at this))
      clear hI
      go_wp2_with fail
      exact hf.out
set_option maxRecDepth 100000 in
set_option maxHeartbeats 4000000 in
theorem rMinus_any (w : World) (qa ca : Nat) (Aa : Option Addr) (ka : List (List Nat)) (ha : RSet w qa Aa ca ka) (hra : Rise32 ka) (qb cb : Nat) (Ab : Option Addr) (kb : List (List Nat)) (hb : RSet w qb Ab cb kb) (hrb : Rise32 kb) (hla : ka.length ≤ 1048576) (hlb : kb.length ≤ 1048576) :
    Calls Try.prog 51 #[.pointer (some ⟨qa, 0, none⟩), .pointer (some ⟨qb, 0, none⟩)] w (RNewP w (takeK (fun z => !decide (z ∈ kb)) ka [])) := by
  have hi32 : Hid ((Try.prog.info? 25).map (·.size) = some 32) := Lib.hid (by kernel_rfl)
  have ha' := Lib.hid ha
  have hb' := Lib.hid hb
  have hka := Lib.hid hra.ok
  have hkb := Lib.hid hrb.ok
  obtain ⟨na, hna⟩ : ∃ n, ka.length = n := ⟨_, rfl⟩
  obtain ⟨nb, hnb⟩ : ∃ n, kb.length = n := ⟨_, rfl⟩
  have hna' := Lib.hid hna
  have hnb' := Lib.hid hnb
  have hXr := Lib.hid (ha'.out.row hka.out)
  rw [hna] at hla
  rw [hnb] at hlb
  obtain ⟨Q, hQ⟩ : ∃ Q, RNewP w (takeK (fun z => !decide (z ∈ kb)) ka []) = Q := ⟨_, rfl⟩
  have hfin : Hid (∀ W s, w.heap.size ≤ s → RNI w s (takeK (fun z => !decide (z ∈ kb)) ka []) W → Q (.returned (.pointer (some ⟨s, 0, none⟩))) W) := Lib.hid fun W s hs h => by
    rw [← hQ]
    obtain ⟨h1, A, c, h2⟩ := h
    exact ⟨s, A, c, rfl, h2, h1, hs⟩
  rw [hQ]
  obtain ⟨s, hs⟩ : ∃ s, w.heap.size = s := ⟨_, rfl⟩
  obtain ⟨w1, hw1⟩ : ∃ w1, w.alloc (.cells #[.slice none 0 0] 67) = w1 := ⟨_, rfl⟩
  have h0 : Hid (RNI w s [] w1) := Lib.hid (by
    rw [← hw1, ← hs]
    exact ⟨(Below.refl _ _).alloc (Nat.le_refl _) _, none, 0, heap_alloc_new w _, Own.nil _ _ _ _⟩)
  have hs' : Hid (w.heap.size ≤ s) := Lib.hid (by omega)
  have hsz : w.heap.size = s := hs
  clear ha hb hra hrb hna hnb hQ hs
  go_enter Try.func51, Try.ntmps51
  go_wp2_with fail
  clear hw1
  go_loopw [6] (fun iv wr => ∃ i : Nat, i ≤ na ∧ iv = .int .i64 (i : Int) ∧ Hid (RNI w s (takeK (fun z => !decide (z ∈ kb)) (ka.take i) []) wr)) (fun iv _ => na - (intOf iv).toNat)
  case atStart => exact ⟨0, by omega, rfl, Lib.hid (by simpa [takeK, insAll] using h0.out)⟩
  case round =>
    clear h0
    obtain ⟨i, hi, rfl, hI⟩ := hrel
    have cX := (ha'.out.below hI.out.1).cel hna'.out
    by_cases hlt : i < na
    · obtain ⟨x, hx⟩ : ∃ x, ka[i]? = some x := ⟨_, List.getElem?_eq_getElem (by rw [hna'.out]; exact hlt)⟩
      obtain ⟨hk, b, off, rfl, hbl, hrg⟩ := hXr.out i x hx
      have hrk : Hid (∀ W, Below w.heap.size w W → W.rangeAt b (off + i * 32) (u8s x)) := Lib.hid fun W hW => rangeAt_below hW hbl hrg
      have hx32 : Hid ((u8s x).length = 32) := Lib.hid (by simp [u8s, hk.1])
      have hC := Lib.hid (RNI.call (ks := takeK (fun z => !decide (z ∈ kb)) (ka.take i) []) hs'.out (takeK_rise (fun z hz => hka.out z (List.mem_of_mem_take hz)) Rise32.nil) (by have h1 := len_insAll ((ka.take i).filter (fun z => !decide (z ∈ kb))) []; have h2 := List.length_filter_le (fun z => !decide (z ∈ kb)) (ka.take i); have h3 := List.length_take_le' i ka; have h4 := hna'.out; simp only [List.length_nil] at h1 h2; unfold takeK; omega) x hk)
      have hHs := Lib.hid (rHas_any wr qb cb Ab kb (hb'.out.below hI.out.1) hkb.out (by rw [hnb'.out]; omega) x hk)
      obtain ⟨tb, htb⟩ : ∃ tb, decide (x ∈ kb) = tb := ⟨_, rfl⟩
      rw [htb] at hHs
      have htk : Hid (takeK (fun z => !decide (z ∈ kb)) (ka.take (i + 1)) [] = if (!tb) = true then insK x (takeK (fun z => !decide (z ∈ kb)) (ka.take i) []) else takeK (fun z => !decide (z ∈ kb)) (ka.take i) []) := Lib.hid (by rw [List.take_add_one, hx, Option.toList_some, takeK_snoc, htb])
      clear hx hk hbl hrg htb
      cases tb
      · have hle := Lib.hid (htk.out.trans (if_pos (by simp)))
        go_wp2_with (first
          | (refine wpList_load_mid rfl 25 _ rfl b (off + i * 32) rfl (u8s x) _ (hrk.out _ hI.out.1) Try.underlying25 rfl (by rw [hx32.out]; exact hi32.out) ?_)
          | (go_at_call 40; refine hHs.out.mono ?_; rintro e w5 ⟨rfl, h5⟩; have hI5 := Lib.hid (hI.out.keep h5); have cX := (ha'.out.below hI5.out.1).cel hna'.out; clear h5 hHs)
          | (refine wpList_load_mid rfl 25 _ rfl b (off + i * 32) rfl (u8s x) _ (hrk.out _ hI5.out.1) Try.underlying25 rfl (by rw [hx32.out]; exact hi32.out) ?_)
          | (go_at_call 38; refine (hC.out _ hI5.out).mono ?_; rintro e w6 ⟨⟨bb, rfl⟩, h6⟩; have h6' := Lib.hid h6; clear h6 hC))
        go_roundw
        case rel => exact ⟨i + 1, by omega, by go_num, Lib.hid (by rw [hle.out]; exact h6'.out)⟩
        case measure => simp [intOf]; omega
      · have hle := Lib.hid (htk.out.trans (if_neg (by simp)))
        go_wp2_with (first
          | (refine wpList_load_mid rfl 25 _ rfl b (off + i * 32) rfl (u8s x) _ (hrk.out _ hI.out.1) Try.underlying25 rfl (by rw [hx32.out]; exact hi32.out) ?_)
          | (go_at_call 40; refine hHs.out.mono ?_; rintro e w5 ⟨rfl, h5⟩; have hI5 := Lib.hid (hI.out.keep h5); have cX := (ha'.out.below hI5.out.1).cel hna'.out; clear h5 hHs))
        go_roundw
        case rel => exact ⟨i + 1, by omega, by go_num, Lib.hid (by rw [hle.out]; exact hI5.out)⟩
        case measure => simp [intOf]; omega
    · have hf := Lib.hid (hfin.out wr s hs'.out (by have := hI.out; rwa [List.take_of_length_le (by rw [hna'.out]; omega)] at this))
      clear hI
      go_wp2_with fail
      exact hf.out
end Go.Proofs.Ytlolnpilpdkbkaa
