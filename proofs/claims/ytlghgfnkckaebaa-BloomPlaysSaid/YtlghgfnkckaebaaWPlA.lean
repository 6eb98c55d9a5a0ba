/- places, with Add's closure and with Has's. (Printed by tools/genpl.py.) -/
import Derived.Test.YtlghgfnkckaebaaWPl0
namespace Go.Proofs.Ytlghgfnkckaebaa
open Go.RowKit
set_option linter.unusedSimpArgs false
set_option linter.unusedVariables false

def placesAP (w : World) (B g A0 c fb h N : Nat) (a b : Nat) (l : List Nat) (e : Ending) (w' : World) : Prop :=
  (∃ v, e = .returned v) ∧ Flt w' B g (some ⟨A0, 0, none⟩) c (addQ a b N l h).1 h ∧ w'.heap[fb]? = some (.cells #[.bool (addQ a b N l h).2] 4 (0, 0)) ∧ Fr (fun k => k = A0 ∨ k = fb) w w'
set_option maxRecDepth 20000 in
set_option maxHeartbeats 4000000 in
theorem placesA_any {w : World} {B g c h A0 : Nat} {l : List Nat} (f : Flt w B g (some ⟨A0, 0, none⟩) c l h) (fb : Nat) (hgf : g ≠ fb) (hAf : A0 ≠ fb) (hfb : w.heap[fb]? = some (.cells #[.bool false] 4 (0, 0))) (kb : List Nat) (hk : kb.length = 32) (h256 : ∀ x ∈ kb, x < 256) :
    Calls Try.prog 53 #[.pointer (some ⟨g, 0, none⟩), .agg (u8s kb).toArray, .func (.func 54) #[] #[.pointer (some ⟨fb, 0, none⟩)]] w (placesAP w B g A0 c fb h (64 * l.length) (k1Q kb) (k2Q kb) l) := by
  have f' := Lib.hid f
  have h1 := f.h1
  have h16 := f.h16
  have n1 := f.n1
  have nm := f.nm
  have hgA : Hid (g ≠ A0) := Lib.hid fun q => f.ne (by rw [q]; rfl)
  have hgF := Lib.hid hgf
  have hAF := Lib.hid hAf
  have hfb' := Lib.hid hfb
  have h256' := Lib.hid h256
  obtain ⟨a, ha⟩ : ∃ a, k1Q kb = a := ⟨_, rfl⟩
  obtain ⟨b, hb⟩ : ∃ b, k2Q kb = b := ⟨_, rfl⟩
  have l8 : ∀ r : List Nat, (∀ x ∈ r, x < 256) → r.length ≤ 8 → leN r < 18446744073709551616 := fun r hr h8 => by
    have q1 := leN_lt r hr
    have q2 : 256 ^ r.length ≤ 256 ^ 8 := Nat.pow_le_pow_right (by decide) h8
    have q3 : (256 : Nat) ^ 8 = 18446744073709551616 := by decide
    omega
  have ha64 : a < 18446744073709551616 := by rw [← ha]; exact l8 _ (fun x hx => h256 x (List.mem_of_mem_take hx)) (by rw [List.length_take]; omega)
  have hb64 : b < 18446744073709551616 := by rw [← hb]; exact l8 _ (fun x hx => h256 x (List.mem_of_mem_drop (List.mem_of_mem_take hx))) (by rw [List.length_take]; omega)
  have hT1 : Hid (fixM kb 8 (some 0) = (a, some 8)) := Lib.hid (by rw [← ha]; simp [fixM, rawM, hk, k1Q])
  have hT2 : Hid (fixM kb 8 (some 8) = (b, some 16)) := Lib.hid (by rw [← hb]; simp [fixM, rawM, hk, k2Q])
  rw [ha, hb]
  have hk' := Lib.hid hk
  obtain ⟨n, hn⟩ : ∃ n, l.length = n := ⟨_, rfl⟩
  rw [hn] at n1 nm ⊢
  obtain ⟨N, hN⟩ : ∃ N, 64 * n = N := ⟨_, rfl⟩
  rw [hN]
  have hn' := Lib.hid hn
  have hN' := Lib.hid hN
  have e64 : (n : Int) * 64 = (N : Int) := by omega
  have hN1 : 64 ≤ N := by omega
  have hN2 : N ≤ 1048576 := by omega
  have c1 := f.c1
  obtain ⟨w1, hw1⟩ : ∃ w1, w.alloc (.cells (u8s kb).toArray 51) = w1 := ⟨_, rfl⟩
  obtain ⟨K, hK⟩ : ∃ K, w.heap.size = K := ⟨_, rfl⟩
  have hbw1 : Hid (Below w.heap.size w w1) := Lib.hid (by rw [← hw1]; exact (Below.refl _ _).alloc (Nat.le_refl _) _)
  have hKb : Hid (Byt w1 w1.heap.size (some ⟨K, 0, none⟩) kb) := Lib.hid fun hp => by
    refine ⟨K, 0, rfl, by rw [← hw1, ← hK]; simp, fun j hj => ?_⟩
    rw [← hw1, ← hK, cell_of_row _ _ (0 + j) _ _ _ (heap_alloc_new w _)]
    simp [u8s, hj]
  obtain ⟨kv, hkv⟩ : ∃ kv, (u8s kb).toArray = kv := ⟨_, rfl⟩
  rw [hkv] at hw1 ⊢
  clear f hgf hAf hfb h256 ha hb hk hn hN l8 c1 hkv
  go_enter Try.func53, Try.ntmps53
  go_wp2_with (first
    | (go_at_call 40
       refine (open_any w1 ⟨K, 0, none⟩ kb 32 32 hk'.out hKb.out (by decide) h256'.out).mono ?_
       rintro e w2 ⟨⟨gd, Ad, cd, rfl, hge, hD, _⟩, hb2⟩
       have hD2 := Lib.hid hD
       have hge2 := Lib.hid (Nat.le_trans hbw1.out.size hge)
       have hB2 := Lib.hid (hbw1.out.trans (hb2.mono hbw1.out.size))
       clear hD hge hb2)
    | (go_at_call 45
       have ht := takeuint64_any hD3.out
       rw [hT2.out] at ht
       refine ht.mono ?_
       unfold Takeuint64Post
       rintro e w4 ⟨rfl, _, hg⟩
       have hB4 := Lib.hid (hB3.out.trans (grown_below hg hB3.out.size (fun k hk => by cases hk; exact hge2.out)))
       have f4 := Lib.hid (f'.out.below hB4.out)
       have c14 := f4.out.c1
       clear hg hD3 hB3 ht)
    | (go_at_call 45
       have ht := takeuint64_any hD2.out
       rw [hT1.out] at ht
       refine ht.mono ?_
       unfold Takeuint64Post
       rintro e w3 ⟨rfl, hD, hg⟩
       have hD3 := Lib.hid hD
       have hB3 := Lib.hid (hB2.out.trans (grown_below hg hB2.out.size (fun k hk => by cases hk; exact hge2.out)))
       clear hD hg ht))
  have hF4 : Hid (w4.heap[fb]? = some (.cells #[.bool false] 4 (0, 0))) := Lib.hid ((hB4.out.block fb (lt_of_block hfb'.out)).trans hfb'.out)
  have hR4 : Hid (Fr (fun k => k = A0 ∨ k = fb) w w4) := Lib.hid (Fr.of_below _ hB4.out)
  clear hbw1 hKb hT1 hT2 hB2 hB4 hge2 c14
  go_loopw [7, 20] (fun av iv wr => ∃ i v : Nat, i ≤ h ∧ av = .int .u64 (v : Int) ∧ iv = .int .i64 (i : Int) ∧ Hid (avQ a b i = v) ∧ Hid (Flt wr B g (some ⟨A0, 0, none⟩) c (addQ a b N l i).1 h) ∧ Hid (wr.heap[fb]? = some (.cells #[.bool (addQ a b N l i).2] 4 (0, 0))) ∧ Hid (Fr (fun k => k = A0 ∨ k = fb) w wr)) (fun _ iv _ => h - (intOf iv).toNat)
  case atStart => exact ⟨0, a, by omega, rfl, rfl, Lib.hid (by simp [avQ, Nat.mod_eq_of_lt ha64]), f4, hF4, hR4⟩
  case round =>
    clear f4 hF4 hR4
    obtain ⟨i, av, hi, rfl, rfl, hav', hf, hF, hR⟩ := hrel
    by_cases hlt : i < h
    · have hav := hav'.out
      have av64 : av < 18446744073709551616 := by rw [← hav]; exact Nat.mod_lt _ (by decide)
      obtain ⟨p, hp⟩ : ∃ p, av % N = p := ⟨_, rfl⟩
      have hpN : p < N := by rw [← hp]; exact Nat.mod_lt _ (by omega)
      have hat : Hid (atQ a b N i = p) := Lib.hid (by unfold atQ; rw [hav, hp])
      have d1 : (av : Int) % (N : Int) = (p : Int) := by rw [← hp]; omega
      obtain ⟨j, hj⟩ : ∃ j, p / 64 = j := ⟨_, rfl⟩
      obtain ⟨m, hm⟩ : ∃ m, p % 64 = m := ⟨_, rfl⟩
      have d2 : (p : Int).tdiv 64 = (j : Int) := by rw [Int.tdiv_eq_ediv_of_nonneg (by omega)]; omega
      have d3 : (p : Int) % 64 = (m : Int) := by omega
      have d4 : IntKind.u64.wrap (j : Int) = (j : Int) := by rw [IntKind.wrap_u64]; omega
      have hjn : j < n := by have := hN'.out; omega
      have hm64 : m < 64 := by omega
      have hlen : Hid ((addQ a b N l i).1.length = n) := Lib.hid ((addQ_length a b N l i).trans hn'.out)
      have c0 := hf.out.c0
      rw [hlen.out] at c0
      obtain ⟨x, hx⟩ : ∃ x, Hid ((addQ a b N l i).1[j]? = some x) := ⟨_, Lib.hid (List.getElem?_eq_getElem (by rw [hlen.out]; exact hjn))⟩
      have hx64 : Hid (x < 18446744073709551616) := Lib.hid (hf.out.lt x (List.mem_of_getElem? hx.out))
      obtain ⟨q, hq⟩ : ∃ q, 2 ^ m = q := ⟨_, rfl⟩
      have hq64 : Hid (q < 18446744073709551616) := Lib.hid (by
        rw [← hq]
        have q1 : (2 : Nat) ^ m < 2 ^ 64 := Nat.pow_lt_pow_right (by decide) hm64
        have q2 : (2 : Nat) ^ 64 = 18446744073709551616 := by decide
        omega)
      have d5 : (2 : Int) ^ m = (q : Int) := by rw [← hq]; simp
      have d6 : IntKind.u64.wrap (q : Int) = (q : Int) := by rw [IntKind.wrap_u64]; have := hq64.out; omega
      have nx : ((av : Int) + (b : Int)) % 18446744073709551616 = ((avQ a b (i + 1) : Nat) : Int) := by rw [← avQ_next, hav]; omega
      have hp' := Lib.hid hp
      have hj' := Lib.hid hj
      have hm' := Lib.hid hm
      have hq' := Lib.hid hq
      clear hp hj hq hav
      have hxq : Hid (x ||| q < 18446744073709551616) := Lib.hid (by
        have q1 : x ||| q < 2 ^ 64 := Nat.or_lt_two_pow (by have := hx64.out; have q2 : (2 : Nat) ^ 64 = 18446744073709551616 := by decide
                                                            omega) (by have := hq64.out; have q2 : (2 : Nat) ^ 64 = 18446744073709551616 := by decide
                                                                       omega)
        have q2 : (2 : Nat) ^ 64 = 18446744073709551616 := by decide
        omega)
      have hcl := Lib.hid (addc_any wr A0 j fb x q (addQ a b N l i).2 hx64.out hq64.out hAF.out (by obtain ⟨A1, e, _, _, _, hc⟩ := hf.out.at; injection e with e; injection e with e; rw [e]; exact hc j x hx.out) (hf.out.fz j) (cell_of_row _ _ _ _ _ _ hF.out) (by simp [World.frozen?, hF.out]))
      go_wp2_with (first
        | (go_at_call 54
           refine hcl.out.mono ?_
           rintro e w5 ⟨⟨v5, rfl⟩, hw5⟩
           have hw5' := Lib.hid hw5
           clear hw5))
      have hs1 : Hid (setAt (addQ a b N l i).1 (atQ a b N i) = (addQ a b N l i).1.set j (x ||| q)) := Lib.hid (by
        unfold setAt
        rw [hat.out, hj'.out, hm'.out, hq'.out, hx.out]
        rfl)
      have hs2 : Hid ((!bitAt (addQ a b N l i).1 (atQ a b N i)) = decide (x &&& q = 0)) := Lib.hid (by
        unfold bitAt
        rw [hat.out, hj'.out, hm'.out, hq'.out, hx.out]
        simp)
      have hf5 : Hid (Flt w5 B g (some ⟨A0, 0, none⟩) c (addQ a b N l (i + 1)).1 h) := Lib.hid (by
        rw [hw5'.out, addQ, hs1.out]
        exact (hf.out.fr (Fr.setCell wr ⟨fb, 0, none⟩ _) hgF.out (fun k hk q => hAF.out (by injection hk with hk; exact hk.trans q))).put j (x ||| q) (by rw [hlen.out]; exact hjn) hxq.out)
      have hF5 : Hid (w5.heap[fb]? = some (.cells #[.bool (addQ a b N l (i + 1)).2] 4 (0, 0))) := Lib.hid (by
        rw [hw5'.out, heap_setCell_other _ _ fb _ hAF.out.symm, heap_setCell_same wr fb 0 _ _ _ hF.out, addQ, hs2.out]
        rfl)
      have hR5 : Hid (Fr (fun k => k = A0 ∨ k = fb) w w5) := Lib.hid (by
        rw [hw5'.out]
        exact (hR.out.trans (Fr.setCell wr ⟨fb, 0, none⟩ _) (fun k _ q => .inr q)).trans (Fr.setCell _ ⟨A0, j, none⟩ _) (fun k _ q => .inl q))
      go_roundw
      case rel => exact ⟨i + 1, avQ a b (i + 1), by omega, by rw [← avQ_next, hav'.out]; rfl, by go_num, Lib.hid rfl, hf5, hF5, hR5⟩
      case measure => simp [intOf]; omega
    · have hih : i = h := by omega
      subst hih
      go_wp2_with fail
      go_end0
      exact ⟨⟨_, rfl⟩, hf.out, hF.out, hR.out⟩
def placesHP (w : World) (B g A0 c fb h N : Nat) (a b : Nat) (l : List Nat) (e : Ending) (w' : World) : Prop :=
  (∃ v, e = .returned v) ∧ Flt w' B g (some ⟨A0, 0, none⟩) c l h ∧ w'.heap[fb]? = some (.cells #[.bool (hasQ a b N l h)] 4 (0, 0)) ∧ Fr (fun k => k = fb) w w'
set_option maxRecDepth 20000 in
set_option maxHeartbeats 4000000 in
theorem placesH_any {w : World} {B g c h A0 : Nat} {l : List Nat} (f : Flt w B g (some ⟨A0, 0, none⟩) c l h) (fb : Nat) (hgf : g ≠ fb) (hAf : A0 ≠ fb) (hfb : w.heap[fb]? = some (.cells #[.bool true] 4 (0, 0))) (kb : List Nat) (hk : kb.length = 32) (h256 : ∀ x ∈ kb, x < 256) :
    Calls Try.prog 53 #[.pointer (some ⟨g, 0, none⟩), .agg (u8s kb).toArray, .func (.func 59) #[] #[.pointer (some ⟨fb, 0, none⟩)]] w (placesHP w B g A0 c fb h (64 * l.length) (k1Q kb) (k2Q kb) l) := by
  have f' := Lib.hid f
  have h1 := f.h1
  have h16 := f.h16
  have n1 := f.n1
  have nm := f.nm
  have hgA : Hid (g ≠ A0) := Lib.hid fun q => f.ne (by rw [q]; rfl)
  have hgF := Lib.hid hgf
  have hAF := Lib.hid hAf
  have hfb' := Lib.hid hfb
  have h256' := Lib.hid h256
  obtain ⟨a, ha⟩ : ∃ a, k1Q kb = a := ⟨_, rfl⟩
  obtain ⟨b, hb⟩ : ∃ b, k2Q kb = b := ⟨_, rfl⟩
  have l8 : ∀ r : List Nat, (∀ x ∈ r, x < 256) → r.length ≤ 8 → leN r < 18446744073709551616 := fun r hr h8 => by
    have q1 := leN_lt r hr
    have q2 : 256 ^ r.length ≤ 256 ^ 8 := Nat.pow_le_pow_right (by decide) h8
    have q3 : (256 : Nat) ^ 8 = 18446744073709551616 := by decide
    omega
  have ha64 : a < 18446744073709551616 := by rw [← ha]; exact l8 _ (fun x hx => h256 x (List.mem_of_mem_take hx)) (by rw [List.length_take]; omega)
  have hb64 : b < 18446744073709551616 := by rw [← hb]; exact l8 _ (fun x hx => h256 x (List.mem_of_mem_drop (List.mem_of_mem_take hx))) (by rw [List.length_take]; omega)
  have hT1 : Hid (fixM kb 8 (some 0) = (a, some 8)) := Lib.hid (by rw [← ha]; simp [fixM, rawM, hk, k1Q])
  have hT2 : Hid (fixM kb 8 (some 8) = (b, some 16)) := Lib.hid (by rw [← hb]; simp [fixM, rawM, hk, k2Q])
  rw [ha, hb]
  have hk' := Lib.hid hk
  obtain ⟨n, hn⟩ : ∃ n, l.length = n := ⟨_, rfl⟩
  rw [hn] at n1 nm ⊢
  obtain ⟨N, hN⟩ : ∃ N, 64 * n = N := ⟨_, rfl⟩
  rw [hN]
  have hn' := Lib.hid hn
  have hN' := Lib.hid hN
  have e64 : (n : Int) * 64 = (N : Int) := by omega
  have hN1 : 64 ≤ N := by omega
  have hN2 : N ≤ 1048576 := by omega
  have c1 := f.c1
  obtain ⟨w1, hw1⟩ : ∃ w1, w.alloc (.cells (u8s kb).toArray 51) = w1 := ⟨_, rfl⟩
  obtain ⟨K, hK⟩ : ∃ K, w.heap.size = K := ⟨_, rfl⟩
  have hbw1 : Hid (Below w.heap.size w w1) := Lib.hid (by rw [← hw1]; exact (Below.refl _ _).alloc (Nat.le_refl _) _)
  have hKb : Hid (Byt w1 w1.heap.size (some ⟨K, 0, none⟩) kb) := Lib.hid fun hp => by
    refine ⟨K, 0, rfl, by rw [← hw1, ← hK]; simp, fun j hj => ?_⟩
    rw [← hw1, ← hK, cell_of_row _ _ (0 + j) _ _ _ (heap_alloc_new w _)]
    simp [u8s, hj]
  obtain ⟨kv, hkv⟩ : ∃ kv, (u8s kb).toArray = kv := ⟨_, rfl⟩
  rw [hkv] at hw1 ⊢
  clear f hgf hAf hfb h256 ha hb hk hn hN l8 c1 hkv
  go_enter Try.func53, Try.ntmps53
  go_wp2_with (first
    | (go_at_call 40
       refine (open_any w1 ⟨K, 0, none⟩ kb 32 32 hk'.out hKb.out (by decide) h256'.out).mono ?_
       rintro e w2 ⟨⟨gd, Ad, cd, rfl, hge, hD, _⟩, hb2⟩
       have hD2 := Lib.hid hD
       have hge2 := Lib.hid (Nat.le_trans hbw1.out.size hge)
       have hB2 := Lib.hid (hbw1.out.trans (hb2.mono hbw1.out.size))
       clear hD hge hb2)
    | (go_at_call 45
       have ht := takeuint64_any hD3.out
       rw [hT2.out] at ht
       refine ht.mono ?_
       unfold Takeuint64Post
       rintro e w4 ⟨rfl, _, hg⟩
       have hB4 := Lib.hid (hB3.out.trans (grown_below hg hB3.out.size (fun k hk => by cases hk; exact hge2.out)))
       have f4 := Lib.hid (f'.out.below hB4.out)
       have c14 := f4.out.c1
       clear hg hD3 hB3 ht)
    | (go_at_call 45
       have ht := takeuint64_any hD2.out
       rw [hT1.out] at ht
       refine ht.mono ?_
       unfold Takeuint64Post
       rintro e w3 ⟨rfl, hD, hg⟩
       have hD3 := Lib.hid hD
       have hB3 := Lib.hid (hB2.out.trans (grown_below hg hB2.out.size (fun k hk => by cases hk; exact hge2.out)))
       clear hD hg ht))
  have hF4 : Hid (w4.heap[fb]? = some (.cells #[.bool true] 4 (0, 0))) := Lib.hid ((hB4.out.block fb (lt_of_block hfb'.out)).trans hfb'.out)
  have hR4 : Hid (Fr (fun k => k = fb) w w4) := Lib.hid (Fr.of_below _ hB4.out)
  clear hbw1 hKb hT1 hT2 hB2 hB4 hge2 c14
  go_loopw [7, 20] (fun av iv wr => ∃ i v : Nat, i ≤ h ∧ av = .int .u64 (v : Int) ∧ iv = .int .i64 (i : Int) ∧ Hid (avQ a b i = v) ∧ Hid (Flt wr B g (some ⟨A0, 0, none⟩) c l h) ∧ Hid (wr.heap[fb]? = some (.cells #[.bool (hasQ a b N l i)] 4 (0, 0))) ∧ Hid (Fr (fun k => k = fb) w wr)) (fun _ iv _ => h - (intOf iv).toNat)
  case atStart => exact ⟨0, a, by omega, rfl, rfl, Lib.hid (by simp [avQ, Nat.mod_eq_of_lt ha64]), f4, hF4, hR4⟩
  case round =>
    clear f4 hF4 hR4
    obtain ⟨i, av, hi, rfl, rfl, hav', hf, hF, hR⟩ := hrel
    by_cases hlt : i < h
    · have hav := hav'.out
      have av64 : av < 18446744073709551616 := by rw [← hav]; exact Nat.mod_lt _ (by decide)
      obtain ⟨p, hp⟩ : ∃ p, av % N = p := ⟨_, rfl⟩
      have hpN : p < N := by rw [← hp]; exact Nat.mod_lt _ (by omega)
      have hat : Hid (atQ a b N i = p) := Lib.hid (by unfold atQ; rw [hav, hp])
      have d1 : (av : Int) % (N : Int) = (p : Int) := by rw [← hp]; omega
      obtain ⟨j, hj⟩ : ∃ j, p / 64 = j := ⟨_, rfl⟩
      obtain ⟨m, hm⟩ : ∃ m, p % 64 = m := ⟨_, rfl⟩
      have d2 : (p : Int).tdiv 64 = (j : Int) := by rw [Int.tdiv_eq_ediv_of_nonneg (by omega)]; omega
      have d3 : (p : Int) % 64 = (m : Int) := by omega
      have d4 : IntKind.u64.wrap (j : Int) = (j : Int) := by rw [IntKind.wrap_u64]; omega
      have hjn : j < n := by have := hN'.out; omega
      have hm64 : m < 64 := by omega
      have hlen : Hid (l.length = n) := Lib.hid hn'.out
      have c0 := hf.out.c0
      rw [hlen.out] at c0
      obtain ⟨x, hx⟩ : ∃ x, Hid (l[j]? = some x) := ⟨_, Lib.hid (List.getElem?_eq_getElem (by rw [hlen.out]; exact hjn))⟩
      have hx64 : Hid (x < 18446744073709551616) := Lib.hid (hf.out.lt x (List.mem_of_getElem? hx.out))
      obtain ⟨q, hq⟩ : ∃ q, 2 ^ m = q := ⟨_, rfl⟩
      have hq64 : Hid (q < 18446744073709551616) := Lib.hid (by
        rw [← hq]
        have q1 : (2 : Nat) ^ m < 2 ^ 64 := Nat.pow_lt_pow_right (by decide) hm64
        have q2 : (2 : Nat) ^ 64 = 18446744073709551616 := by decide
        omega)
      have d5 : (2 : Int) ^ m = (q : Int) := by rw [← hq]; simp
      have d6 : IntKind.u64.wrap (q : Int) = (q : Int) := by rw [IntKind.wrap_u64]; have := hq64.out; omega
      have nx : ((av : Int) + (b : Int)) % 18446744073709551616 = ((avQ a b (i + 1) : Nat) : Int) := by rw [← avQ_next, hav]; omega
      have hp' := Lib.hid hp
      have hj' := Lib.hid hj
      have hm' := Lib.hid hm
      have hq' := Lib.hid hq
      clear hp hj hq hav
      have hcl := Lib.hid (hasc_any wr A0 j fb x q (hasQ a b N l i) hx64.out hq64.out (by obtain ⟨A1, e, _, _, _, hc⟩ := hf.out.at; injection e with e; injection e with e; rw [e]; exact hc j x hx.out) (cell_of_row _ _ _ _ _ _ hF.out) (by simp [World.frozen?, hF.out]))
      go_wp2_with (first
        | (go_at_call 59
           refine hcl.out.mono ?_
           rintro e w5 ⟨⟨v5, rfl⟩, hw5⟩
           have hw5' := Lib.hid hw5
           clear hw5))
      have hs2 : Hid (bitAt l (atQ a b N i) = !decide (x &&& q = 0)) := Lib.hid (by
        unfold bitAt
        rw [hat.out, hj'.out, hm'.out, hq'.out, hx.out]
        rfl)
      have hf5 : Hid (Flt w5 B g (some ⟨A0, 0, none⟩) c l h) := Lib.hid (by
        rw [hw5'.out]
        exact hf.out.fr (Fr.setCell wr ⟨fb, 0, none⟩ _) hgF.out (fun k hk q => hAF.out (by injection hk with hk; exact hk.trans q)))
      have hF5 : Hid (w5.heap[fb]? = some (.cells #[.bool (hasQ a b N l (i + 1))] 4 (0, 0))) := Lib.hid (by
        rw [hw5'.out, heap_setCell_same wr fb 0 _ _ _ hF.out, hasQ, hs2.out]
        rfl)
      have hR5 : Hid (Fr (fun k => k = fb) w w5) := Lib.hid (by
        rw [hw5'.out]
        exact hR.out.trans (Fr.setCell wr ⟨fb, 0, none⟩ _) (fun k _ q => q))
      go_roundw
      case rel => exact ⟨i + 1, avQ a b (i + 1), by omega, by rw [← avQ_next, hav'.out]; rfl, by go_num, Lib.hid rfl, hf5, hF5, hR5⟩
      case measure => simp [intOf]; omega
    · have hih : i = h := by omega
      subst hih
      go_wp2_with fail
      go_end0
      exact ⟨⟨_, rfl⟩, hf.out, hF.out, hR.out⟩
end Go.Proofs.Ytlghgfnkckaebaa
