/- KeyAlgebra: the walk, the first list not empty. (Printed by tools/genka.py.) -/
import Derived.Test.YtlolnpilpdkbkaaKaH
namespace Go.Proofs.Ytlolnpilpdkbkaa
open Go.RowKit Go.Maps
set_option linter.unusedSimpArgs false
set_option linter.unusedVariables false

set_option maxRecDepth 100000 in
set_option maxHeartbeats 40000000 in
theorem alg_pos (w : World) (Aa : Option Addr) (na ca : Nat) (xs : List (List Nat)) (hna : xs.length = na) (hA : KeyRow w Aa xs) (Ab : Option Addr) (nb cb : Nat) (ys : List (List Nat)) (hnb : ys.length = nb) (hB : KeyRow w Ab ys)
    (hla : na ≤ 1048576) (hlb : nb ≤ 1048576) (hz : 0 < na) :
    Calls Try.prog 5 #[.slice Aa na ca, .slice Ab nb cb] w fun e w' => e = .returned (.bool true) ∧ Below w.heap.size w w' := by
  have hxk : ∀ x ∈ xs, IsK x := fun x hx => by
    obtain ⟨k, hk, rfl⟩ := List.mem_iff_getElem.1 hx
    exact (hA k _ (List.getElem?_eq_getElem hk)).1
  have hyk : ∀ x ∈ ys, IsK x := fun x hx => by
    obtain ⟨k, hk, rfl⟩ := List.mem_iff_getElem.1 hx
    exact (hB k _ (List.getElem?_eq_getElem hk)).1
  have hP0 := algP xs ys hxk hyk
  obtain ⟨KA, hKA⟩ : ∃ KA, insAll xs [] = KA := ⟨_, rfl⟩
  obtain ⟨KB, hKB⟩ : ∃ KB, insAll ys [] = KB := ⟨_, rfl⟩
  have la : KA.length ≤ 1048576 := by have := len_insAll xs []; rw [hKA] at this; simp at this; omega
  have lb : KB.length ≤ 1048576 := by have := len_insAll ys []; rw [hKB] at this; simp at this; omega
  rw [hKA, hKB] at hP0
  obtain ⟨U, hU⟩ : ∃ U, takeK (unionT KA KB) KB (takeK (unionT KA KB) KA []) = U := ⟨_, rfl⟩
  obtain ⟨V, hV⟩ : ∃ V, takeK (bothT KA KB) KB (takeK (bothT KA KB) KA []) = V := ⟨_, rfl⟩
  obtain ⟨M, hM⟩ : ∃ M, takeK (minusT KA KB) KB (takeK (minusT KA KB) KA []) = M := ⟨_, rfl⟩
  rw [hU, hV, hM] at hP0
  have hP := Lib.hid hP0
  have hNa : Hid (Calls Try.prog 10 #[.slice Aa na ca] w fun e w' => ∃ s m n, e = .returned (.pointer (some ⟨s, 0, none⟩)) ∧ SetK w' s m n KA ∧ Below w.heap.size w w') := Lib.hid ((newK_any w Aa xs na ca hna (by omega) hA).mono fun e w' ⟨h1, h2, h3⟩ => ⟨_, _, _, h1, hKA ▸ h2, h3⟩)
  have hNb : Hid (∀ W, Below w.heap.size w W → Calls Try.prog 10 #[.slice Ab nb cb] W fun e w' => ∃ s m n, e = .returned (.pointer (some ⟨s, 0, none⟩)) ∧ SetK w' s m n KB ∧ Below W.heap.size W w') := Lib.hid fun W hW =>
    ((newK_any W Ab ys nb cb hnb (by omega) (hB.below hW)).mono fun e w' ⟨h1, h2, h3⟩ => ⟨_, _, _, h1, hKB ▸ h2, h3⟩)
  have hA' := Lib.hid hA
  have hB' := Lib.hid hB
  have la' := Lib.hid la
  have lb' := Lib.hid lb
  have hna' := Lib.hid hna
  have hnb' := Lib.hid hnb
  have huv := hP.out.uv
  have hmv := hP.out.mv'
  have hUl : U.length ≤ 2097152 := by omega
  have hUl' := Lib.hid hUl
  have hUVl := Lib.hid huv
  have hMVl := Lib.hid hmv
  obtain ⟨lU, hlU⟩ : ∃ lU, U.length = lU := ⟨_, rfl⟩
  obtain ⟨lV, hlV⟩ : ∃ lV, V.length = lV := ⟨_, rfl⟩
  obtain ⟨lS, hlS⟩ : ∃ lS, KA.length = lS := ⟨_, rfl⟩
  obtain ⟨lT, hlT⟩ : ∃ lT, KB.length = lT := ⟨_, rfl⟩
  obtain ⟨lM, hlM⟩ : ∃ lM, M.length = lM := ⟨_, rfl⟩
  have hlU' := Lib.hid hlU
  have hlV' := Lib.hid hlV
  have hlS' := Lib.hid hlS
  have hlT' := Lib.hid hlT
  have hlM' := Lib.hid hlM
  have he1 : ((lU : Int) + lV != (lS : Int) + lT) = false := by simp; omega
  have he2 : ((lM : Int) + lV != (lS : Int)) = false := by simp; omega
  have z1 : lU ≤ 2097152 := by omega
  have z2 : lV ≤ 1048576 := by omega
  have z3 : lS ≤ 1048576 := by omega
  have z4 : lT ≤ 1048576 := by omega
  have z5 : lM ≤ 1048576 := by omega
  have hgt : (0 : Int) < (na : Int) := by omega
  have hS0 : decide ((lS : Int) = 0) = false := by
    have h1 : KA.length ≠ 0 := fun h => by
      have h2 := List.eq_nil_of_length_eq_zero h
      obtain ⟨x, hx⟩ := List.exists_mem_of_length_pos (l := xs) (by omega)
      have := (hP.out.ma x).2 hx
      rw [h2] at this
      simp at this
    simp
    omega
  have hS1 : ¬ lS = 0 := by simpa using hS0
  clear hz
  clear hP0 hxk hyk hKA hKB hA hB la lb hna hnb huv hmv hUl hlU hlV hlS hlT hlM
  go_enter Try.func5, Try.ntmps5
  go_wp2_with (first
    | (go_at_call 10; refine hNa.out.mono ?_; rintro e w1 ⟨s, ms, ns, rfl, hs, b1⟩
       have hs' := Lib.hid hs
       have b1' := Lib.hid b1
       clear hs b1 hNa)
    | (go_at_call 10; refine (hNb.out _ b1'.out).mono ?_; rintro e w2 ⟨t, mt, nt, rfl, ht, b2⟩
       have hs2 := Lib.hid (hs'.out.below b2)
       have ht2 := Lib.hid ht
       have b2' := Lib.hid (b1'.out.trans (b2.mono b1'.out.size))
       have hUn := Lib.hid (union_any w2 s ms ns t mt nt KA KB hs2.out ht2.out (by have := la'.out; omega) (by have := lb'.out; omega))
       clear b2 ht hNb hs')
    | (go_at_call 11; refine hUn.out.mono ?_; rintro e w3 ⟨u, mu, nu, rfl, hu, b3, _⟩
       have hs3 := Lib.hid (hs2.out.below b3)
       have ht3 := Lib.hid (ht2.out.below b3)
       rw [hU] at hu
       have hu3 := Lib.hid hu
       have b3' := Lib.hid (b2'.out.trans (b3.mono b2'.out.size))
       have hBo := Lib.hid (both_any w3 s ms ns t mt nt KA KB hs3.out ht3.out (by have := la'.out; omega) (by have := lb'.out; omega))
       clear b3 hu hUn hs2 ht2)
    | (go_at_call 12; refine hBo.out.mono ?_; rintro e w4 ⟨v, mv, nv, rfl, hv, b4, _⟩
       have hs4 := Lib.hid (hs3.out.below b4)
       have ht4 := Lib.hid (ht3.out.below b4)
       have hu4 := Lib.hid (hu3.out.below b4)
       rw [hV] at hv
       have hv4 := Lib.hid hv
       have b4' := Lib.hid (b3'.out.trans (b4.mono b3'.out.size))
       have hMi := Lib.hid (minus_any w4 s ms ns t mt nt KA KB hs4.out ht4.out (by have := la'.out; omega) (by have := lb'.out; omega))
       clear b4 hv hBo hs3 ht3 hu3)
    | (go_at_call 13; refine hMi.out.mono ?_; rintro e w5 ⟨m, mm, nm, rfl, hm, b5, _⟩
       rw [hM] at hm
       have hW5 : Hid (AlgW w Aa xs Ab ys s t u v m KA KB U V M w5) := Lib.hid (by
         have b := b4'.out.trans (b5.mono b4'.out.size)
         exact ⟨b, hA'.out.below b, hB'.out.below b, ⟨_, _, hs4.out.below b5⟩, ⟨_, _, ht4.out.below b5⟩, ⟨_, _, hu4.out.below b5⟩, ⟨_, _, hv4.out.below b5⟩, ⟨_, _, hm⟩⟩)
       have hLe := Lib.hid hW5.out.lens
       have hT1 := Lib.hid (show Calls Try.prog 15 #[.pointer (some ⟨u, 0, none⟩)] w5 (ToldP w5 U) from by
         obtain ⟨a, b, h⟩ := hW5.out.hu
         exact told_any w5 u a b U h (by have := hUl'.out; omega))
       have hL1 := Lib.hid hLe.out.2.2.1
       have hL2 := Lib.hid hLe.out.2.2.2.1
       have hL3 := Lib.hid hLe.out.1
       have hL4 := Lib.hid hLe.out.2.1
       have hL5 := Lib.hid hLe.out.2.2.2.2
       have hL6 := Lib.hid hLe.out.2.2.2.1
       have hL7 := Lib.hid hLe.out.1
       have hL8 := Lib.hid hLe.out.1
       rw [hlU'.out] at hL1
       rw [hlV'.out] at hL2 hL6
       rw [hlS'.out] at hL3 hL7 hL8
       rw [hlT'.out] at hL4
       rw [hlM'.out] at hL5
       clear b5 hm hMi hs4 ht4 hu4 hv4 hLe)
    | (go_at_call 14; refine hL1.out.mono ?_; rintro e wq ⟨rfl, h5⟩; have h6 := h5.symm; clear h5; subst h6; clear hL1)
    | (go_at_call 14; refine hL2.out.mono ?_; rintro e wq ⟨rfl, h5⟩; have h6 := h5.symm; clear h5; subst h6; clear hL2)
    | (go_at_call 14; refine hL3.out.mono ?_; rintro e wq ⟨rfl, h5⟩; have h6 := h5.symm; clear h5; subst h6; clear hL3)
    | (go_at_call 14; refine hL4.out.mono ?_; rintro e wq ⟨rfl, h5⟩; have h6 := h5.symm; clear h5; subst h6; clear hL4)
    | (go_at_call 14; refine hL5.out.mono ?_; rintro e wq ⟨rfl, h5⟩; have h6 := h5.symm; clear h5; subst h6; clear hL5)
    | (go_at_call 14; refine hL6.out.mono ?_; rintro e wq ⟨rfl, h5⟩; have h6 := h5.symm; clear h5; subst h6; clear hL6)
    | (go_at_call 14; refine hL7.out.mono ?_; rintro e wq ⟨rfl, h5⟩; have h6 := h5.symm; clear h5; subst h6; clear hL7)
    | (go_at_call 14; refine hL8.out.mono ?_; rintro e wq ⟨rfl, h5⟩; have h6 := h5.symm; clear h5; subst h6; clear hL8)
    | (go_at_call 15; refine hT1.out.mono ?_; rintro e w6 ⟨AL, cL, rfl, o6, b6⟩
       have o6' := Lib.hid o6
       have hW6 := Lib.hid (hW5.out.keep b6)
       have hL9 := Lib.hid hW6.out.lens.2.2.1
       rw [hlU'.out] at hL9 ⊢
       clear o6 b6 hT1 hW5)
    | (go_at_call 14; refine hL9.out.mono ?_; rintro e wq ⟨rfl, h5⟩; have h6 := h5.symm; clear h5; subst h6; clear hL9))
  have hi32 : Hid ((Try.prog.info? 25).map (·.size) = some 32) := Lib.hid (by kernel_rfl)
  go_loopw [11] (fun iv wr => ∃ i : Nat, i ≤ na ∧ iv = .int .i64 (i : Int) ∧ Hid (Below w6.heap.size w6 wr)) (fun iv _ => na - (intOf iv).toNat)
  case atStart => exact ⟨0, by omega, rfl, Lib.hid (Below.refl _ _)⟩
  case round =>
    as_aux_lemma =>
      obtain ⟨i, hi, rfl, hb⟩ := hrel
      by_cases hlt : i < na
      · obtain ⟨x, hx⟩ : ∃ x, xs[i]? = some x := ⟨_, List.getElem?_eq_getElem (by rw [hna'.out]; exact hlt)⟩
        have hxm : x ∈ xs := List.mem_of_getElem? hx
        obtain ⟨hxk, b, off, rfl, hbl, hrg⟩ := hW6.out.ra i x hx
        have hrk : Hid (∀ W, Below w6.heap.size w6 W → W.rangeAt b (off + i * 32) (u8s x)) := Lib.hid fun W hW => rangeAt_below hW hbl hrg
        have hx32 : Hid ((u8s x).length = 32) := Lib.hid (by simp [u8s, hxk.1])
        have hKA : x ∈ KA := (hP.out.ma x).2 hxm
        obtain ⟨tb, htb⟩ : ∃ tb, decide (x ∈ KB) = tb := ⟨_, rfl⟩
        have hHa := fun {W'} (hb : Below w6.heap.size w6 W') => hW6.out.has x hxk hb
        rw [htb, decide_eq_true hKA, decide_eq_true ((hP.out.mu x).2 (Or.inl hKA)), show decide (x ∈ V) = tb by rw [← htb]; simp [hP.out.mv, hKA], show decide (x ∈ M) = !tb by rw [← htb]; simp [hP.out.mm, hKA]] at hHa
        have hH1 := Lib.hid (fun W' (hb : Below w6.heap.size w6 W') => (hHa hb).1)
        have hH2 := Lib.hid (fun W' (hb : Below w6.heap.size w6 W') => (hHa hb).2.2.1)
        have hH3 := Lib.hid (fun W' (hb : Below w6.heap.size w6 W') => (hHa hb).2.2.2.1)
        have hH4 := Lib.hid (fun W' (hb : Below w6.heap.size w6 W') => (hHa hb).2.1)
        have hH5 := Lib.hid (fun W' (hb : Below w6.heap.size w6 W') => (hHa hb).2.2.2.2)
        clear hHa htb hKA hxk hbl hrg hxm hx
        have hd : Hid (Below w6.heap.size w6 wr.drew) := Lib.hid (below_drewN hb.out 1)
        go_wp2_with fail
        refine wp_region_held (S := fun W => Below w6.heap.size w6 W) (by kernel_rfl) ?_
        change wpAnyH _ _ _ _ _ _ _ _ (World.drew _)
        refine tkL (i := 0) (d := 89) (v := (.pointer (some ⟨s, 0, none⟩))) rfl rfl (Or.inl ⟨by rfl, by intro W hW; clear hW; go_simp⟩) hd.out ?_
        dsimp only [List.set_cons_zero, List.set_cons_succ]
        refine tkL (i := 1) (d := 90) (v := (.slice (some ⟨b, off, none⟩) na ca)) rfl rfl (Or.inl ⟨by rfl, by intro W hW; clear hW; go_simp⟩) hd.out ?_
        dsimp only [List.set_cons_zero, List.set_cons_succ]
        refine tkL (i := 2) (d := 91) (v := (.int .i64 (i : Int))) rfl rfl (Or.inl ⟨by rfl, by intro W hW; clear hW; go_simp⟩) hd.out ?_
        dsimp only [List.set_cons_zero, List.set_cons_succ]
        refine tkL (i := 3) (d := 92) (v := (.pointer (some ⟨b, off + i * 32, none⟩))) rfl rfl (Or.inl ⟨by rfl, by intro W hW; clear hW; go_simp⟩) hd.out ?_
        dsimp only [List.set_cons_zero, List.set_cons_succ]
        refine tkL (i := 4) (d := 93) (v := (.agg (u8s x).toArray)) rfl rfl (yieldsIf_load_mid (by rfl) 25 _ rfl b (off + i * 32) rfl (u8s x) _ hrk.out Try.underlying25 rfl (by rw [hx32.out]; exact hi32.out)) hd.out ?_
        dsimp only [List.set_cons_zero, List.set_cons_succ]
        refine wpAnyH_ready (rs := [5]) (by kernel_rfl) (by simp) ?_
        refine AllReadyH.cons rfl (fun K hK => ?_) AllReadyH.nil
        go_simp
        refine (hH1.out _ hd.out).mono ?_
        rintro e v1 ⟨rfl, q1⟩
        have hd1 : Hid (Below w6.heap.size w6 v1) := Lib.hid (hd.out.trans (q1.mono hd.out.size))
        clear q1
        refine hK.out _ _ hd1.out (fun _ => ?_)
        clear hK K
        refine tkL (i := 6) (d := 95) (v := (.bool false)) rfl rfl (Or.inl ⟨by rfl, by intro W hW; clear hW; go_simp⟩) hd1.out ?_
        dsimp only [List.set_cons_zero, List.set_cons_succ]
        refine tkL (i := 7) (d := 96) (v := (.bool false)) rfl rfl (Or.inl ⟨by rfl, by intro W hW; clear hW; go_simp⟩) hd1.out ?_
        dsimp only [List.set_cons_zero, List.set_cons_succ]
        refine tkL (i := 8) (d := 97) (v := (.pointer (some ⟨u, 0, none⟩))) rfl rfl (Or.inl ⟨by rfl, by intro W hW; clear hW; go_simp⟩) hd1.out ?_
        dsimp only [List.set_cons_zero, List.set_cons_succ]
        refine tkL (i := 9) (d := 98) (v := (.slice (some ⟨b, off, none⟩) na ca)) rfl rfl (Or.inl ⟨by rfl, by intro W hW; clear hW; go_simp⟩) hd1.out ?_
        dsimp only [List.set_cons_zero, List.set_cons_succ]
        refine tkL (i := 10) (d := 99) (v := (.int .i64 (i : Int))) rfl rfl (Or.inl ⟨by rfl, by intro W hW; clear hW; go_simp⟩) hd1.out ?_
        dsimp only [List.set_cons_zero, List.set_cons_succ]
        refine tkL (i := 11) (d := 100) (v := (.pointer (some ⟨b, off + i * 32, none⟩))) rfl rfl (Or.inl ⟨by rfl, by intro W hW; clear hW; go_simp⟩) hd1.out ?_
        dsimp only [List.set_cons_zero, List.set_cons_succ]
        refine tkL (i := 12) (d := 101) (v := (.agg (u8s x).toArray)) rfl rfl (yieldsIf_load_mid (by rfl) 25 _ rfl b (off + i * 32) rfl (u8s x) _ hrk.out Try.underlying25 rfl (by rw [hx32.out]; exact hi32.out)) hd1.out ?_
        dsimp only [List.set_cons_zero, List.set_cons_succ]
        refine wpAnyH_ready (rs := [13]) (by kernel_rfl) (by simp) ?_
        refine AllReadyH.cons rfl (fun K hK => ?_) AllReadyH.nil
        go_simp
        refine (hH2.out _ hd1.out).mono ?_
        rintro e v2 ⟨rfl, q2⟩
        have hd2 : Hid (Below w6.heap.size w6 v2) := Lib.hid (hd1.out.trans (q2.mono hd1.out.size))
        clear q2
        refine hK.out _ _ hd2.out (fun _ => ?_)
        clear hK K
        refine tkL (i := 14) (d := 103) (v := (.bool false)) rfl rfl (Or.inl ⟨by rfl, by intro W hW; clear hW; go_simp⟩) hd2.out ?_
        dsimp only [List.set_cons_zero, List.set_cons_succ]
        refine tkL (i := 15) (d := 104) (v := (.bool false)) rfl rfl (Or.inl ⟨by rfl, by intro W hW; clear hW; go_simp⟩) hd2.out ?_
        dsimp only [List.set_cons_zero, List.set_cons_succ]
        refine tkL (i := 16) (d := 105) (v := (.bool false)) rfl rfl (Or.inl ⟨by rfl, by intro W hW; clear hW; go_simp⟩) hd2.out ?_
        dsimp only [List.set_cons_zero, List.set_cons_succ]
        refine tkL (i := 17) (d := 106) (v := (.pointer (some ⟨v, 0, none⟩))) rfl rfl (Or.inl ⟨by rfl, by intro W hW; clear hW; go_simp⟩) hd2.out ?_
        dsimp only [List.set_cons_zero, List.set_cons_succ]
        refine tkL (i := 18) (d := 107) (v := (.slice (some ⟨b, off, none⟩) na ca)) rfl rfl (Or.inl ⟨by rfl, by intro W hW; clear hW; go_simp⟩) hd2.out ?_
        dsimp only [List.set_cons_zero, List.set_cons_succ]
        refine tkL (i := 19) (d := 108) (v := (.int .i64 (i : Int))) rfl rfl (Or.inl ⟨by rfl, by intro W hW; clear hW; go_simp⟩) hd2.out ?_
        dsimp only [List.set_cons_zero, List.set_cons_succ]
        refine tkL (i := 20) (d := 109) (v := (.pointer (some ⟨b, off + i * 32, none⟩))) rfl rfl (Or.inl ⟨by rfl, by intro W hW; clear hW; go_simp⟩) hd2.out ?_
        dsimp only [List.set_cons_zero, List.set_cons_succ]
        refine tkL (i := 21) (d := 110) (v := (.agg (u8s x).toArray)) rfl rfl (yieldsIf_load_mid (by rfl) 25 _ rfl b (off + i * 32) rfl (u8s x) _ hrk.out Try.underlying25 rfl (by rw [hx32.out]; exact hi32.out)) hd2.out ?_
        dsimp only [List.set_cons_zero, List.set_cons_succ]
        refine tkL (i := 23) (d := 112) (v := (.pointer (some ⟨t, 0, none⟩))) rfl rfl (Or.inl ⟨by rfl, by intro W hW; clear hW; go_simp⟩) hd2.out ?_
        dsimp only [List.set_cons_zero, List.set_cons_succ]
        refine tkL (i := 24) (d := 113) (v := (.slice (some ⟨b, off, none⟩) na ca)) rfl rfl (Or.inl ⟨by rfl, by intro W hW; clear hW; go_simp⟩) hd2.out ?_
        dsimp only [List.set_cons_zero, List.set_cons_succ]
        refine tkL (i := 25) (d := 114) (v := (.int .i64 (i : Int))) rfl rfl (Or.inl ⟨by rfl, by intro W hW; clear hW; go_simp⟩) hd2.out ?_
        dsimp only [List.set_cons_zero, List.set_cons_succ]
        refine tkL (i := 26) (d := 115) (v := (.pointer (some ⟨b, off + i * 32, none⟩))) rfl rfl (Or.inl ⟨by rfl, by intro W hW; clear hW; go_simp⟩) hd2.out ?_
        dsimp only [List.set_cons_zero, List.set_cons_succ]
        refine tkL (i := 27) (d := 116) (v := (.agg (u8s x).toArray)) rfl rfl (yieldsIf_load_mid (by rfl) 25 _ rfl b (off + i * 32) rfl (u8s x) _ hrk.out Try.underlying25 rfl (by rw [hx32.out]; exact hi32.out)) hd2.out ?_
        dsimp only [List.set_cons_zero, List.set_cons_succ]
        refine wpAnyH_ready (rs := [22]) (by kernel_rfl) (by simp) ?_
        refine AllReadyH.cons rfl (fun K hK => ?_) AllReadyH.nil
        go_simp
        refine (hH3.out _ hd2.out).mono ?_
        rintro e v3 ⟨rfl, q3⟩
        have hd3 : Hid (Below w6.heap.size w6 v3) := Lib.hid (hd2.out.trans (q3.mono hd2.out.size))
        clear q3
        refine hK.out _ _ hd3.out (fun _ => ?_)
        clear hK K
        refine wpAnyH_ready (rs := [28]) (by kernel_rfl) (by simp) ?_
        refine AllReadyH.cons rfl (fun K hK => ?_) AllReadyH.nil
        go_simp
        refine (hH4.out _ hd3.out).mono ?_
        rintro e v4 ⟨rfl, q4⟩
        have hd4 : Hid (Below w6.heap.size w6 v4) := Lib.hid (hd3.out.trans (q4.mono hd3.out.size))
        clear q4
        refine hK.out _ _ hd4.out (fun _ => ?_)
        clear hK K
        refine tkL (i := 29) (d := 118) (v := (.bool false)) rfl rfl (Or.inl ⟨by rfl, by intro W hW; clear hW; go_simp⟩) hd4.out ?_
        dsimp only [List.set_cons_zero, List.set_cons_succ]
        refine tkL (i := 30) (d := 119) (v := (.bool false)) rfl rfl (Or.inl ⟨by rfl, by intro W hW; clear hW; go_simp⟩) hd4.out ?_
        dsimp only [List.set_cons_zero, List.set_cons_succ]
        refine tkL (i := 31) (d := 120) (v := (.bool false)) rfl rfl (Or.inl ⟨by rfl, by intro W hW; clear hW; go_simp⟩) hd4.out ?_
        dsimp only [List.set_cons_zero, List.set_cons_succ]
        refine tkL (i := 32) (d := 121) (v := (.pointer (some ⟨m, 0, none⟩))) rfl rfl (Or.inl ⟨by rfl, by intro W hW; clear hW; go_simp⟩) hd4.out ?_
        dsimp only [List.set_cons_zero, List.set_cons_succ]
        refine tkL (i := 33) (d := 122) (v := (.slice (some ⟨b, off, none⟩) na ca)) rfl rfl (Or.inl ⟨by rfl, by intro W hW; clear hW; go_simp⟩) hd4.out ?_
        dsimp only [List.set_cons_zero, List.set_cons_succ]
        refine tkL (i := 34) (d := 123) (v := (.int .i64 (i : Int))) rfl rfl (Or.inl ⟨by rfl, by intro W hW; clear hW; go_simp⟩) hd4.out ?_
        dsimp only [List.set_cons_zero, List.set_cons_succ]
        refine tkL (i := 35) (d := 124) (v := (.pointer (some ⟨b, off + i * 32, none⟩))) rfl rfl (Or.inl ⟨by rfl, by intro W hW; clear hW; go_simp⟩) hd4.out ?_
        dsimp only [List.set_cons_zero, List.set_cons_succ]
        refine tkL (i := 36) (d := 125) (v := (.agg (u8s x).toArray)) rfl rfl (yieldsIf_load_mid (by rfl) 25 _ rfl b (off + i * 32) rfl (u8s x) _ hrk.out Try.underlying25 rfl (by rw [hx32.out]; exact hi32.out)) hd4.out ?_
        dsimp only [List.set_cons_zero, List.set_cons_succ]
        refine tkL (i := 38) (d := 127) (v := (.pointer (some ⟨t, 0, none⟩))) rfl rfl (Or.inl ⟨by rfl, by intro W hW; clear hW; go_simp⟩) hd4.out ?_
        dsimp only [List.set_cons_zero, List.set_cons_succ]
        refine tkL (i := 39) (d := 128) (v := (.slice (some ⟨b, off, none⟩) na ca)) rfl rfl (Or.inl ⟨by rfl, by intro W hW; clear hW; go_simp⟩) hd4.out ?_
        dsimp only [List.set_cons_zero, List.set_cons_succ]
        refine tkL (i := 40) (d := 129) (v := (.int .i64 (i : Int))) rfl rfl (Or.inl ⟨by rfl, by intro W hW; clear hW; go_simp⟩) hd4.out ?_
        dsimp only [List.set_cons_zero, List.set_cons_succ]
        refine tkL (i := 41) (d := 130) (v := (.pointer (some ⟨b, off + i * 32, none⟩))) rfl rfl (Or.inl ⟨by rfl, by intro W hW; clear hW; go_simp⟩) hd4.out ?_
        dsimp only [List.set_cons_zero, List.set_cons_succ]
        refine tkL (i := 42) (d := 131) (v := (.agg (u8s x).toArray)) rfl rfl (yieldsIf_load_mid (by rfl) 25 _ rfl b (off + i * 32) rfl (u8s x) _ hrk.out Try.underlying25 rfl (by rw [hx32.out]; exact hi32.out)) hd4.out ?_
        dsimp only [List.set_cons_zero, List.set_cons_succ]
        refine wpAnyH_ready (rs := [37]) (by kernel_rfl) (by simp) ?_
        refine AllReadyH.cons rfl (fun K hK => ?_) AllReadyH.nil
        go_simp
        refine (hH5.out _ hd4.out).mono ?_
        rintro e v5 ⟨rfl, q5⟩
        have hd5 : Hid (Below w6.heap.size w6 v5) := Lib.hid (hd4.out.trans (q5.mono hd4.out.size))
        clear q5
        refine hK.out _ _ hd5.out (fun _ => ?_)
        clear hK K
        refine wpAnyH_ready (rs := [43]) (by kernel_rfl) (by simp) ?_
        refine AllReadyH.cons rfl (fun K hK => ?_) AllReadyH.nil
        go_simp
        refine (hH4.out _ hd5.out).mono ?_
        rintro e v6 ⟨rfl, q6⟩
        have hd6 : Hid (Below w6.heap.size w6 v6) := Lib.hid (hd5.out.trans (q6.mono hd5.out.size))
        clear q6
        refine hK.out _ _ hd6.out (fun _ => ?_)
        clear hK K
        refine tkL (i := 44) (d := 133) (v := (.bool false)) rfl rfl (Or.inl ⟨by rfl, by intro W hW; clear hW; go_simp⟩) hd6.out ?_
        dsimp only [List.set_cons_zero, List.set_cons_succ]
        refine tkL (i := 45) (d := 134) (v := (.bool false)) rfl rfl (Or.inl ⟨by rfl, by intro W hW; clear hW; go_simp⟩) hd6.out ?_
        dsimp only [List.set_cons_zero, List.set_cons_succ]
        refine wpAnyH_done (by kernel_rfl) ?_ _
        go_wp2_with fail
        go_roundw
        case rel => exact ⟨i + 1, by omega, by go_num, hd6⟩
        case measure => simp [intOf]; omega
      · have hb1 := hb
        clear hb
        go_wp2_with fail
        go_loopw [12] (fun iv wr => ∃ i : Nat, i ≤ nb ∧ iv = .int .i64 (i : Int) ∧ Hid (Below w6.heap.size w6 wr)) (fun iv _ => nb - (intOf iv).toNat)
        case atStart => exact ⟨0, by omega, rfl, hb1⟩
        case round =>
          as_aux_lemma =>
            clear hb1
            obtain ⟨i, hi, rfl, hb⟩ := hrel
            by_cases hlt : i < nb
            · obtain ⟨x, hx⟩ : ∃ x, ys[i]? = some x := ⟨_, List.getElem?_eq_getElem (by rw [hnb'.out]; exact hlt)⟩
              have hxm : x ∈ ys := List.mem_of_getElem? hx
              obtain ⟨hxk, b, off, rfl, hbl, hrg⟩ := hW6.out.rb i x hx
              have hrk : Hid (∀ W, Below w6.heap.size w6 W → W.rangeAt b (off + i * 32) (u8s x)) := Lib.hid fun W hW => rangeAt_below hW hbl hrg
              have hx32 : Hid ((u8s x).length = 32) := Lib.hid (by simp [u8s, hxk.1])
              have hKB : x ∈ KB := (hP.out.mb x).2 hxm
              obtain ⟨tb, htb⟩ : ∃ tb, decide (x ∈ KA) = tb := ⟨_, rfl⟩
              have hHa := fun {W'} (hb : Below w6.heap.size w6 W') => hW6.out.has x hxk hb
              rw [htb, decide_eq_true hKB, decide_eq_true ((hP.out.mu x).2 (Or.inr hKB)), show decide (x ∈ V) = tb by rw [← htb]; simp [hP.out.mv, hKB], show decide (x ∈ M) = false by simp [hP.out.mm, hKB]] at hHa
              have hH1 := Lib.hid (fun W' (hb : Below w6.heap.size w6 W') => (hHa hb).2.1)
              have hH2 := Lib.hid (fun W' (hb : Below w6.heap.size w6 W') => (hHa hb).2.2.1)
              have hH3 := Lib.hid (fun W' (hb : Below w6.heap.size w6 W') => (hHa hb).2.2.2.1)
              have hH4 := Lib.hid (fun W' (hb : Below w6.heap.size w6 W') => (hHa hb).1)
              have hH5 := Lib.hid (fun W' (hb : Below w6.heap.size w6 W') => (hHa hb).2.2.2.2)
              clear hHa htb hKB hxk hbl hrg hxm hx
              have hd : Hid (Below w6.heap.size w6 wr.drew) := Lib.hid (below_drewN hb.out 1)
              go_wp2_with fail
              refine wp_region_held (S := fun W => Below w6.heap.size w6 W) (by kernel_rfl) ?_
              change wpAnyH _ _ _ _ _ _ _ _ (World.drew _)
              refine tkL (i := 0) (d := 141) (v := (.pointer (some ⟨t, 0, none⟩))) rfl rfl (Or.inl ⟨by rfl, by intro W hW; clear hW; go_simp⟩) hd.out ?_
              dsimp only [List.set_cons_zero, List.set_cons_succ]
              refine tkL (i := 1) (d := 142) (v := (.slice (some ⟨b, off, none⟩) nb cb)) rfl rfl (Or.inl ⟨by rfl, by intro W hW; clear hW; go_simp⟩) hd.out ?_
              dsimp only [List.set_cons_zero, List.set_cons_succ]
              refine tkL (i := 2) (d := 143) (v := (.int .i64 (i : Int))) rfl rfl (Or.inl ⟨by rfl, by intro W hW; clear hW; go_simp⟩) hd.out ?_
              dsimp only [List.set_cons_zero, List.set_cons_succ]
              refine tkL (i := 3) (d := 144) (v := (.pointer (some ⟨b, off + i * 32, none⟩))) rfl rfl (Or.inl ⟨by rfl, by intro W hW; clear hW; go_simp⟩) hd.out ?_
              dsimp only [List.set_cons_zero, List.set_cons_succ]
              refine tkL (i := 4) (d := 145) (v := (.agg (u8s x).toArray)) rfl rfl (yieldsIf_load_mid (by rfl) 25 _ rfl b (off + i * 32) rfl (u8s x) _ hrk.out Try.underlying25 rfl (by rw [hx32.out]; exact hi32.out)) hd.out ?_
              dsimp only [List.set_cons_zero, List.set_cons_succ]
              refine wpAnyH_ready (rs := [5]) (by kernel_rfl) (by simp) ?_
              refine AllReadyH.cons rfl (fun K hK => ?_) AllReadyH.nil
              go_simp
              refine (hH1.out _ hd.out).mono ?_
              rintro e v1 ⟨rfl, q1⟩
              have hd1 : Hid (Below w6.heap.size w6 v1) := Lib.hid (hd.out.trans (q1.mono hd.out.size))
              clear q1
              refine hK.out _ _ hd1.out (fun _ => ?_)
              clear hK K
              refine tkL (i := 6) (d := 147) (v := (.bool false)) rfl rfl (Or.inl ⟨by rfl, by intro W hW; clear hW; go_simp⟩) hd1.out ?_
              dsimp only [List.set_cons_zero, List.set_cons_succ]
              refine tkL (i := 7) (d := 148) (v := (.bool false)) rfl rfl (Or.inl ⟨by rfl, by intro W hW; clear hW; go_simp⟩) hd1.out ?_
              dsimp only [List.set_cons_zero, List.set_cons_succ]
              refine tkL (i := 8) (d := 149) (v := (.pointer (some ⟨u, 0, none⟩))) rfl rfl (Or.inl ⟨by rfl, by intro W hW; clear hW; go_simp⟩) hd1.out ?_
              dsimp only [List.set_cons_zero, List.set_cons_succ]
              refine tkL (i := 9) (d := 150) (v := (.slice (some ⟨b, off, none⟩) nb cb)) rfl rfl (Or.inl ⟨by rfl, by intro W hW; clear hW; go_simp⟩) hd1.out ?_
              dsimp only [List.set_cons_zero, List.set_cons_succ]
              refine tkL (i := 10) (d := 151) (v := (.int .i64 (i : Int))) rfl rfl (Or.inl ⟨by rfl, by intro W hW; clear hW; go_simp⟩) hd1.out ?_
              dsimp only [List.set_cons_zero, List.set_cons_succ]
              refine tkL (i := 11) (d := 152) (v := (.pointer (some ⟨b, off + i * 32, none⟩))) rfl rfl (Or.inl ⟨by rfl, by intro W hW; clear hW; go_simp⟩) hd1.out ?_
              dsimp only [List.set_cons_zero, List.set_cons_succ]
              refine tkL (i := 12) (d := 153) (v := (.agg (u8s x).toArray)) rfl rfl (yieldsIf_load_mid (by rfl) 25 _ rfl b (off + i * 32) rfl (u8s x) _ hrk.out Try.underlying25 rfl (by rw [hx32.out]; exact hi32.out)) hd1.out ?_
              dsimp only [List.set_cons_zero, List.set_cons_succ]
              refine wpAnyH_ready (rs := [13]) (by kernel_rfl) (by simp) ?_
              refine AllReadyH.cons rfl (fun K hK => ?_) AllReadyH.nil
              go_simp
              refine (hH2.out _ hd1.out).mono ?_
              rintro e v2 ⟨rfl, q2⟩
              have hd2 : Hid (Below w6.heap.size w6 v2) := Lib.hid (hd1.out.trans (q2.mono hd1.out.size))
              clear q2
              refine hK.out _ _ hd2.out (fun _ => ?_)
              clear hK K
              refine tkL (i := 14) (d := 155) (v := (.bool false)) rfl rfl (Or.inl ⟨by rfl, by intro W hW; clear hW; go_simp⟩) hd2.out ?_
              dsimp only [List.set_cons_zero, List.set_cons_succ]
              refine tkL (i := 15) (d := 156) (v := (.bool false)) rfl rfl (Or.inl ⟨by rfl, by intro W hW; clear hW; go_simp⟩) hd2.out ?_
              dsimp only [List.set_cons_zero, List.set_cons_succ]
              refine tkL (i := 16) (d := 157) (v := (.bool false)) rfl rfl (Or.inl ⟨by rfl, by intro W hW; clear hW; go_simp⟩) hd2.out ?_
              dsimp only [List.set_cons_zero, List.set_cons_succ]
              refine tkL (i := 17) (d := 158) (v := (.pointer (some ⟨v, 0, none⟩))) rfl rfl (Or.inl ⟨by rfl, by intro W hW; clear hW; go_simp⟩) hd2.out ?_
              dsimp only [List.set_cons_zero, List.set_cons_succ]
              refine tkL (i := 18) (d := 159) (v := (.slice (some ⟨b, off, none⟩) nb cb)) rfl rfl (Or.inl ⟨by rfl, by intro W hW; clear hW; go_simp⟩) hd2.out ?_
              dsimp only [List.set_cons_zero, List.set_cons_succ]
              refine tkL (i := 19) (d := 160) (v := (.int .i64 (i : Int))) rfl rfl (Or.inl ⟨by rfl, by intro W hW; clear hW; go_simp⟩) hd2.out ?_
              dsimp only [List.set_cons_zero, List.set_cons_succ]
              refine tkL (i := 20) (d := 161) (v := (.pointer (some ⟨b, off + i * 32, none⟩))) rfl rfl (Or.inl ⟨by rfl, by intro W hW; clear hW; go_simp⟩) hd2.out ?_
              dsimp only [List.set_cons_zero, List.set_cons_succ]
              refine tkL (i := 21) (d := 162) (v := (.agg (u8s x).toArray)) rfl rfl (yieldsIf_load_mid (by rfl) 25 _ rfl b (off + i * 32) rfl (u8s x) _ hrk.out Try.underlying25 rfl (by rw [hx32.out]; exact hi32.out)) hd2.out ?_
              dsimp only [List.set_cons_zero, List.set_cons_succ]
              refine tkL (i := 23) (d := 164) (v := (.pointer (some ⟨s, 0, none⟩))) rfl rfl (Or.inl ⟨by rfl, by intro W hW; clear hW; go_simp⟩) hd2.out ?_
              dsimp only [List.set_cons_zero, List.set_cons_succ]
              refine tkL (i := 24) (d := 165) (v := (.slice (some ⟨b, off, none⟩) nb cb)) rfl rfl (Or.inl ⟨by rfl, by intro W hW; clear hW; go_simp⟩) hd2.out ?_
              dsimp only [List.set_cons_zero, List.set_cons_succ]
              refine tkL (i := 25) (d := 166) (v := (.int .i64 (i : Int))) rfl rfl (Or.inl ⟨by rfl, by intro W hW; clear hW; go_simp⟩) hd2.out ?_
              dsimp only [List.set_cons_zero, List.set_cons_succ]
              refine tkL (i := 26) (d := 167) (v := (.pointer (some ⟨b, off + i * 32, none⟩))) rfl rfl (Or.inl ⟨by rfl, by intro W hW; clear hW; go_simp⟩) hd2.out ?_
              dsimp only [List.set_cons_zero, List.set_cons_succ]
              refine tkL (i := 27) (d := 168) (v := (.agg (u8s x).toArray)) rfl rfl (yieldsIf_load_mid (by rfl) 25 _ rfl b (off + i * 32) rfl (u8s x) _ hrk.out Try.underlying25 rfl (by rw [hx32.out]; exact hi32.out)) hd2.out ?_
              dsimp only [List.set_cons_zero, List.set_cons_succ]
              refine wpAnyH_ready (rs := [22]) (by kernel_rfl) (by simp) ?_
              refine AllReadyH.cons rfl (fun K hK => ?_) AllReadyH.nil
              go_simp
              refine (hH3.out _ hd2.out).mono ?_
              rintro e v3 ⟨rfl, q3⟩
              have hd3 : Hid (Below w6.heap.size w6 v3) := Lib.hid (hd2.out.trans (q3.mono hd2.out.size))
              clear q3
              refine hK.out _ _ hd3.out (fun _ => ?_)
              clear hK K
              refine wpAnyH_ready (rs := [28]) (by kernel_rfl) (by simp) ?_
              refine AllReadyH.cons rfl (fun K hK => ?_) AllReadyH.nil
              go_simp
              refine (hH4.out _ hd3.out).mono ?_
              rintro e v4 ⟨rfl, q4⟩
              have hd4 : Hid (Below w6.heap.size w6 v4) := Lib.hid (hd3.out.trans (q4.mono hd3.out.size))
              clear q4
              refine hK.out _ _ hd4.out (fun _ => ?_)
              clear hK K
              refine tkL (i := 29) (d := 170) (v := (.bool false)) rfl rfl (Or.inl ⟨by rfl, by intro W hW; clear hW; go_simp⟩) hd4.out ?_
              dsimp only [List.set_cons_zero, List.set_cons_succ]
              refine tkL (i := 30) (d := 171) (v := (.bool false)) rfl rfl (Or.inl ⟨by rfl, by intro W hW; clear hW; go_simp⟩) hd4.out ?_
              dsimp only [List.set_cons_zero, List.set_cons_succ]
              refine tkL (i := 31) (d := 172) (v := (.bool false)) rfl rfl (Or.inl ⟨by rfl, by intro W hW; clear hW; go_simp⟩) hd4.out ?_
              dsimp only [List.set_cons_zero, List.set_cons_succ]
              refine tkL (i := 32) (d := 173) (v := (.pointer (some ⟨m, 0, none⟩))) rfl rfl (Or.inl ⟨by rfl, by intro W hW; clear hW; go_simp⟩) hd4.out ?_
              dsimp only [List.set_cons_zero, List.set_cons_succ]
              refine tkL (i := 33) (d := 174) (v := (.slice (some ⟨b, off, none⟩) nb cb)) rfl rfl (Or.inl ⟨by rfl, by intro W hW; clear hW; go_simp⟩) hd4.out ?_
              dsimp only [List.set_cons_zero, List.set_cons_succ]
              refine tkL (i := 34) (d := 175) (v := (.int .i64 (i : Int))) rfl rfl (Or.inl ⟨by rfl, by intro W hW; clear hW; go_simp⟩) hd4.out ?_
              dsimp only [List.set_cons_zero, List.set_cons_succ]
              refine tkL (i := 35) (d := 176) (v := (.pointer (some ⟨b, off + i * 32, none⟩))) rfl rfl (Or.inl ⟨by rfl, by intro W hW; clear hW; go_simp⟩) hd4.out ?_
              dsimp only [List.set_cons_zero, List.set_cons_succ]
              refine tkL (i := 36) (d := 177) (v := (.agg (u8s x).toArray)) rfl rfl (yieldsIf_load_mid (by rfl) 25 _ rfl b (off + i * 32) rfl (u8s x) _ hrk.out Try.underlying25 rfl (by rw [hx32.out]; exact hi32.out)) hd4.out ?_
              dsimp only [List.set_cons_zero, List.set_cons_succ]
              refine wpAnyH_ready (rs := [37]) (by kernel_rfl) (by simp) ?_
              refine AllReadyH.cons rfl (fun K hK => ?_) AllReadyH.nil
              go_simp
              refine (hH5.out _ hd4.out).mono ?_
              rintro e v5 ⟨rfl, q5⟩
              have hd5 : Hid (Below w6.heap.size w6 v5) := Lib.hid (hd4.out.trans (q5.mono hd4.out.size))
              clear q5
              refine hK.out _ _ hd5.out (fun _ => ?_)
              clear hK K
              refine tkL (i := 38) (d := 179) (v := (.bool false)) rfl rfl (Or.inl ⟨by rfl, by intro W hW; clear hW; go_simp⟩) hd5.out ?_
              dsimp only [List.set_cons_zero, List.set_cons_succ]
              refine wpAnyH_done (by kernel_rfl) ?_ _
              go_wp2_with fail
              go_roundw
              case rel => exact ⟨i + 1, by omega, by go_num, hd5⟩
              case measure => simp [intOf]; omega
            · have hb1 := hb
              clear hb
              obtain ⟨k255, hk255⟩ : ∃ k, (zeros 32).set 0 255 = k := ⟨_, rfl⟩
              have hbld : ∀ W : World, (Instr.build 25 #[(0, .int .u8 255)]).run Try.prog W = .ok (.agg (u8s k255).toArray) W := fun W => by
                rw [← hk255]
                exact run_build W _ _ _ (by kernel_rfl)
              have hk255' : IsK k255 := by rw [← hk255]; exact ⟨by decide, by decide⟩
              have hzk := zeroKy
              have hNx : Hid (Calls Try.prog 17 #[.pointer (some ⟨u, 0, none⟩), .agg (u8s k255).toArray, .bool true] wr fun e w' => e = .returned (.tuple #[.agg (u8s ((U[0]?).getD (zeros 32))).toArray, .bool (decide (0 < lU))]) ∧ Below wr.heap.size wr w') := Lib.hid (by
                obtain ⟨a, b, h⟩ := (hW6.out.keep hb1.out).hu
                have := nextK_any wr u a b U h true k255 hk255'
                unfold NextK at this
                rw [next_any0, show (U[0]?).isSome = decide (0 < lU) by rw [← hlU'.out]; cases U <;> simp] at this
                exact this)
              obtain ⟨at0, hat0⟩ : ∃ at0, (U[0]?).getD (zeros 32) = at0 := ⟨_, rfl⟩
              rw [hat0] at hNx
              have hUk : ∀ i : Nat, ((U[i]?).getD (zeros 32)).length = 32 := fun i => by
                cases h : U[i]? with
                | none => simp [zeros]
                | some x => exact (hP.out.ru.ok x (List.mem_of_getElem? h)).1
              have hUk' := Lib.hid hUk
              have hts : Hid ((u8s at0).toArray.size = 32) := Lib.hid (by rw [← hat0]; simp [u8s, hUk 0])
              have hzs : Hid ((u8s (zeros 32)).toArray.size = 32) := Lib.hid (by simp [u8s, zeros])
              have hat0' := Lib.hid hat0
              obtain ⟨kk, hkk⟩ : ∃ kk, (u8s k255).toArray = kk := ⟨_, rfl⟩
              rw [hkk] at hbld hNx
              have hbld := Lib.hid hbld
              clear hk255 hk255' hat0 hUk hkk
              go_wp2_with (first
                | (refine wpList_blF rfl 25 _ rfl #[(0, .int .u8 255)] (by rw [List.map_toArray]; rfl) _ (fun W => hbld.out W) ?_)
                | (go_at_call 17; refine hNx.out.mono ?_; rintro e w7 ⟨rfl, b7⟩; have b7' := Lib.hid (hb1.out.trans (b7.mono hb1.out.size)); clear b7 hNx)
                | (refine wpList_store_row rfl 25 _ _ rfl w7.heap.size (u8s at0).toArray rfl rfl 25 _ (heap_alloc_new w7 _) (by rw [hts.out]; exact hi32.out) (by rw [hts.out, hzs.out]) (all_oneCell_toArray u8s_one) ?_))
              obtain ⟨w8, hw8⟩ : ∃ w8, (w7.alloc (.cells (u8s (zeros 32)).toArray 25)).setRow w7.heap.size (u8s at0).toArray = w8 := ⟨_, rfl⟩
              have hkn := key_new w7 at0
              rw [hw8] at hkn ⊢
              have hk8 : Hid (w8.heap[w7.heap.size]? = some (.cells (u8s at0).toArray 25 (0, 0))) := Lib.hid hkn.1
              have hb8 : Hid (Below w6.heap.size w6 w8) := Lib.hid (b7'.out.trans (hkn.2.mono b7'.out.size))
              have hg13 : Hid (w6.heap.size ≤ w7.heap.size) := Lib.hid b7'.out.size
              clear hkn hw8 b7' hbld hb1
              generalize w7.heap.size = g13 at hk8 hg13 ⊢
              go_loopw [14, 15] (fun okv iv wr => ∃ i : Nat, i ≤ lU ∧ iv = .int .i64 (i : Int) ∧ okv = .bool (decide (i < lU)) ∧ Hid (Below w6.heap.size w6 wr) ∧ Hid (wr.heap[g13]? = some (.cells (u8s ((U[i]?).getD (zeros 32))).toArray 25 (0, 0)))) (fun _ iv _ => lU - (intOf iv).toNat)
              case atStart => exact ⟨0, by omega, rfl, rfl, hb8, Lib.hid (by rw [hat0'.out]; exact hk8.out)⟩
              case round =>
                as_aux_lemma =>
                  clear hb8 hk8
                  obtain ⟨i, hi, rfl, rfl, hb, hk⟩ := hrel
                  by_cases hlt : i < lU
                  · obtain ⟨x, hx⟩ : ∃ x, U[i]? = some x := ⟨_, List.getElem?_eq_getElem (by rw [hlU'.out]; exact hlt)⟩
                    have hxm : Hid (x ∈ U) := Lib.hid (List.mem_of_getElem? hx)
                    have hxk : Hid (IsK x) := Lib.hid (hP.out.ru.ok x hxm.out)
                    have hUl3 : ∀ y ∈ U, y.length = 32 := fun y hy => (hP.out.ru.ok y hy).1
                    obtain ⟨b, off, rfl, hbl, hrg⟩ := ownK_at o6'.out hUl3 hx
                    have hrk : Hid (∀ W, Below w6.heap.size w6 W → W.rangeAt b (off + i * 32) (u8s x)) := Lib.hid fun W hW => rangeAt_below hW hbl hrg
                    have hx32 : Hid ((u8s x).length = 32) := Lib.hid (by simp [u8s, hxk.out.1])
                    have hxs32 : Hid ((u8s x).toArray.size = 32) := Lib.hid (by simp [u8s, hxk.out.1])
                    have hne : Hid (∀ W, (binOp .neq 25 (.agg (u8s x).toArray) (.agg (u8s x).toArray)).run Try.prog W = .ok (.bool false) W) := Lib.hid fun W => by
                      have := neK (l := x) (l' := x) hxk.out.1 hxk.out.1 W
                      simpa using this
                    have hx' := Lib.hid hx
                    have hd0 : Hid (AtS w6 g13 x wr) := Lib.hid ⟨hb.out, by have := hk.out; rwa [hx] at this⟩
                    have hd : Hid (AtS w6 g13 x wr.drew) := Lib.hid (hd0.out.keep (below_drewN (Below.refl _ _) 1))
                    rw [decide_eq_true hlt]
                    have hlU9 := hlU'
                    have hbl' := Lib.hid hbl
                    have hpr : Hid (∀ j, i = j + 1 → ∃ y, U[j]? = some y) := Lib.hid fun j hj => ⟨_, List.getElem?_eq_getElem (by rw [hlU9.out]; omega)⟩
                    have hpw : Hid (∀ j y, U[j]? = some y → w6.rangeAt b (off + j * 32) (u8s y)) := Lib.hid fun j y hy => by
                      obtain ⟨b2, off2, e, _, h⟩ := ownK_at o6'.out hUl3 hy
                      cases e
                      exact h
                    clear hb hk hd0 hbl hrg hx hUl3
                    obtain ⟨N, hN⟩ : ∃ N, shortN x U = N := ⟨_, rfl⟩
                    have hN4 : 4 ≤ N := by rw [← hN]; exact shortN_ge x U
                    have hN64 : N ≤ 64 := by rw [← hN]; exact shortN_le hxk.out hP.out.ru.ok
                    have hfs := find_short hP.out.ru hxm.out
                    have hfl := find_less hP.out.ru hxm.out
                    rw [hN] at hfs hfl
                    obtain ⟨p, hp⟩ : ∃ p : ByteArray, (⟨((hexL x).take N).toArray⟩ : ByteArray) = p := ⟨_, rfl⟩
                    obtain ⟨hs, hhs⟩ : ∃ hs : ByteArray, (⟨(hexL x).toArray⟩ : ByteArray) = hs := ⟨_, rfl⟩
                    have h64 : (hexL x).length = 64 := by rw [hexL_length, hxk.out.1]
                    have hps : p.size = N := by rw [← hp, Lib.size_eq]; simp; omega
                    have hpl : p.data.toList = (hexL x).take N := by rw [← hp]
                    have hph : p.size ≤ hs.size := by
                      have : hs.size = 64 := by rw [← hhs, Lib.size_eq]; simp [h64]
                      omega
                    have hxe : hs.extract 0 p.size = p := by
                      rw [← hhs, hps, ← hp]
                      apply ByteArray.ext
                      simp
                    have hUl4 : U.length ≤ 4194304 := by have := hUl'.out; omega
                    have hSh : Hid (∀ W, AtS w6 g13 x W → Calls Try.prog 18 #[.pointer (some ⟨u, 0, none⟩), .agg (u8s x).toArray] W fun e w' => e = .returned (.tuple #[.string p, .int .i64 0]) ∧ Below W.heap.size W w') := Lib.hid fun W hW => by
                      obtain ⟨a, b, h⟩ := (hW6.out.keep hW.1).hu
                      have := short_any W u a b U h hUl4 x hxk.out
                      unfold ShortP at this
                      rw [if_pos hxm.out, hN, hp] at this
                      exact this
                    have hHx : Hid (∀ W, Calls Try.prog 7 #[.agg (u8s x).toArray] W fun e w' => e = .returned (.string hs) ∧ Below W.heap.size W w') := Lib.hid fun W => by
                      rw [← hhs]
                      exact hex_any x W hxk.out.1 hxk.out.2
                    have hFi : Hid (∀ W, AtS w6 g13 x W → Calls Try.prog 19 #[.pointer (some ⟨u, 0, none⟩), .string p] W fun e w' => e = .returned (.tuple #[.agg (u8s x).toArray, .int .i64 0]) ∧ Below W.heap.size W w') := Lib.hid fun W hW => by
                      obtain ⟨a, b, h⟩ := (hW6.out.keep hW.1).hu
                      have := find_any W u a b U h hUl4 p (by omega)
                      unfold FindP at this
                      rw [hpl, hfs] at this
                      exact this
                    have hFl : Hid (∀ W q, 4 < p.size → q = p.extract 0 (p.size - 1) → AtS w6 g13 x W → Calls Try.prog 19 #[.pointer (some ⟨u, 0, none⟩), .string q] W fun e w' => e = .returned (.tuple #[.agg (u8s (zeros 32)).toArray, .int .i64 32]) ∧ Below W.heap.size W w') := Lib.hid fun W q h4 hq hW => by
                      obtain ⟨a, b, h⟩ := (hW6.out.keep hW.1).hu
                      have hql : q.data.toList = (hexL x).take (N - 1) := by
                        rw [hq, hps, ← hp]
                        simp [List.take_take]
                      have := find_any W u a b U h hUl4 q (by rw [Lib.size_eq, hql]; simp; omega)
                      unfold FindP at this
                      rw [hql, hfl (by omega)] at this
                      exact this
                    have hsome : (U[i + 1]?).isSome = decide (i + 1 < lU) := by
                      rw [← hlU'.out]
                      by_cases h : i + 1 < U.length
                      · rw [List.getElem?_eq_getElem h, decide_eq_true h]
                        rfl
                      · rw [List.getElem?_eq_none (by omega), decide_eq_false h]
                        rfl
                    have hNx2 : Hid (∀ W, AtS w6 g13 x W → Calls Try.prog 17 #[.pointer (some ⟨u, 0, none⟩), .agg (u8s x).toArray, .bool false] W fun e w' => e = .returned (.tuple #[.agg (u8s ((U[i + 1]?).getD (zeros 32))).toArray, .bool (decide (i + 1 < lU))]) ∧ Below W.heap.size W w') := Lib.hid fun W hW => by
                      obtain ⟨a, b, h⟩ := (hW6.out.keep hW.1).hu
                      have := nextK_any W u a b U h false x hxk.out
                      unfold NextK at this
                      rw [next_at hP.out.ru hx'.out, hsome] at this
                      exact this
                    have hl4 : decide ((p.size : Int) < 4) = false := by simp; omega
                    have hl64 : decide ((64 : Int) < (p.size : Int)) = false := by simp; omega
                    have hp64 : p.size ≤ 64 := by omega
                    have hfl2 : Hid (p.size ≤ 64) := Lib.hid hp64
                    obtain ⟨nx, hnx⟩ : ∃ nx, (U[i + 1]?).getD (zeros 32) = nx := ⟨_, rfl⟩
                    rw [hnx] at hNx2
                    have hnxs : Hid ((u8s nx).toArray.size = 32) := Lib.hid (by rw [← hnx]; simp [u8s, hUk'.out (i + 1)])
                    have hnx' := Lib.hid hnx
                    clear hnx hsome hp64 hN hN4 hN64 hfs hfl hp hhs h64 hps hpl hUl4
                    go_upto_region 22 with fail
                    go_cut [218] from 186 to 291 (fun c vz => c = .bool false ∧ Hid (AtS w6 g13 x vz))
                    case first =>
                      by_cases hi0 : i = 0
                      · have hj0 : Hid (decide (0 < i) = false) := Lib.hid (by simp [hi0])
                        clear hi0 hSh hHx hFi hFl hNx2
                        refine wp_region_held (S := AtS w6 g13 x) (by kernel_rfl) ?_
                        change wpAnyH _ _ _ _ _ _ _ _ (World.drew _)
                        refine tkL (i := 0) (d := 192) (v := (.bool true)) rfl rfl (Or.inl ⟨by rfl, by intro W hW; clear hW; go_simp⟩) hd.out ?_
                        dsimp only [List.set_cons_zero, List.set_cons_succ]
                        refine tkL (i := 1) (d := 193) (v := (.bool false)) rfl rfl (Or.inl ⟨by rfl, by intro W hW; clear hW; go_simp⟩) hd.out ?_
                        dsimp only [List.set_cons_zero, List.set_cons_succ]
                        refine tkL (i := 2) (d := 194) (v := (.bool false)) rfl rfl (Or.inl ⟨by rfl, by intro W hW; clear hW; go_simp⟩) hd.out ?_
                        dsimp only [List.set_cons_zero, List.set_cons_succ]
                        refine tkL (i := 3) (d := 195) (v := (.agg (u8s x).toArray)) rfl rfl (yieldsIf_load_row (by rfl) 25 _ rfl g13 rfl 25 (u8s x).toArray (0, 0) _ (fun W hW => hW.2) Try.underlying25 rfl (by rw [hxs32.out]; exact hi32.out)) hd.out ?_
                        dsimp only [List.set_cons_zero, List.set_cons_succ]
                        refine tkL (i := 4) (d := 196) (v := (.slice (some ⟨b, off, none⟩) lU cL)) rfl rfl (Or.inl ⟨by rfl, by intro W hW; clear hW; go_simp⟩) hd.out ?_
                        dsimp only [List.set_cons_zero, List.set_cons_succ]
                        refine tkL (i := 5) (d := 197) (v := (.int .i64 (i : Int))) rfl rfl (Or.inl ⟨by rfl, by intro W hW; clear hW; go_simp⟩) hd.out ?_
                        dsimp only [List.set_cons_zero, List.set_cons_succ]
                        refine tkL (i := 6) (d := 198) (v := (.pointer (some ⟨b, off + i * 32, none⟩))) rfl rfl (Or.inl ⟨by rfl, by intro W hW; clear hW; go_simp⟩) hd.out ?_
                        dsimp only [List.set_cons_zero, List.set_cons_succ]
                        refine tkL (i := 7) (d := 199) (v := (.agg (u8s x).toArray)) rfl rfl (yieldsIf_load_mid (by rfl) 25 _ rfl b (off + i * 32) rfl (u8s x) _ (fun W hW => hrk.out W hW.1) Try.underlying25 rfl (by rw [hx32.out]; exact hi32.out)) hd.out ?_
                        dsimp only [List.set_cons_zero, List.set_cons_succ]
                        refine tkL (i := 8) (d := 200) (v := (.bool false)) rfl rfl (yieldsIf_binA (by rfl) .neq 25 _ _ _ rfl (.agg (u8s x).toArray) (.agg (u8s x).toArray) rfl rfl (.bool false) (fun _ => rfl) (fun W _ => hne.out W)) hd.out ?_
                        dsimp only [List.set_cons_zero, List.set_cons_succ]
                        refine tkL (i := 9) (d := 201) (v := (.bool false)) rfl rfl (Or.inl ⟨by rfl, by intro W hW; clear hW; go_simp⟩) hd.out ?_
                        dsimp only [List.set_cons_zero, List.set_cons_succ]
                        refine tkL (i := 10) (d := 202) (v := (.bool false)) rfl rfl (Or.inl ⟨by rfl, by intro W hW; clear hW; go_simp⟩) hd.out ?_
                        dsimp only [List.set_cons_zero, List.set_cons_succ]
                        refine tkL (i := 11) (d := 203) (v := (.int .i64 (i : Int))) rfl rfl (Or.inl ⟨by rfl, by intro W hW; clear hW; go_simp⟩) hd.out ?_
                        dsimp only [List.set_cons_zero, List.set_cons_succ]
                        refine tkL (i := 12) (d := 204) (v := (.bool false)) rfl rfl (Or.inl ⟨by rfl, by intro W hW; have hh := hj0.out; clear hW; go_simp⟩) hd.out ?_
                        dsimp only [List.set_cons_zero, List.set_cons_succ]
                        refine tkL (i := 13) (d := 205) (v := (.bool false)) rfl rfl (Or.inl ⟨by rfl, by intro W hW; clear hW; go_simp⟩) hd.out ?_
                        dsimp only [List.set_cons_zero, List.set_cons_succ]
                        refine tkL (i := 14) (d := 206) (v := undef) rfl rfl (Or.inr ⟨by rfl, by rfl⟩) hd.out ?_
                        dsimp only [List.set_cons_zero, List.set_cons_succ]
                        refine tkL (i := 15) (d := 207) (v := undef) rfl rfl (Or.inr ⟨by rfl, by rfl⟩) hd.out ?_
                        dsimp only [List.set_cons_zero, List.set_cons_succ]
                        refine tkL (i := 16) (d := 208) (v := undef) rfl rfl (Or.inr ⟨by rfl, by rfl⟩) hd.out ?_
                        dsimp only [List.set_cons_zero, List.set_cons_succ]
                        refine tkL (i := 17) (d := 209) (v := undef) rfl rfl (Or.inr ⟨by rfl, by rfl⟩) hd.out ?_
                        dsimp only [List.set_cons_zero, List.set_cons_succ]
                        refine tkL (i := 18) (d := 210) (v := undef) rfl rfl (Or.inr ⟨by rfl, by rfl⟩) hd.out ?_
                        dsimp only [List.set_cons_zero, List.set_cons_succ]
                        refine tkL (i := 19) (d := 211) (v := undef) rfl rfl (Or.inr ⟨by rfl, by rfl⟩) hd.out ?_
                        dsimp only [List.set_cons_zero, List.set_cons_succ]
                        refine tkL (i := 20) (d := 212) (v := undef) rfl rfl (Or.inr ⟨by rfl, by rfl⟩) hd.out ?_
                        dsimp only [List.set_cons_zero, List.set_cons_succ]
                        refine tkL (i := 21) (d := 213) (v := undef) rfl rfl (Or.inr ⟨by rfl, by rfl⟩) hd.out ?_
                        dsimp only [List.set_cons_zero, List.set_cons_succ]
                        refine tkL (i := 22) (d := 214) (v := undef) rfl rfl (Or.inr ⟨by rfl, by rfl⟩) hd.out ?_
                        dsimp only [List.set_cons_zero, List.set_cons_succ]
                        refine wpAnyH_ready (rs := [23]) (by kernel_rfl) (by simp) ?_
                        refine AllReadyH.cons rfl (fun K hK => ?_) AllReadyH.nil
                        go_simp
                        refine hK.out _ _ hd.out (fun _ => ?_)
                        clear hK K
                        refine tkL (i := 24) (d := 216) (v := undef) rfl rfl (Or.inr ⟨by rfl, by rfl⟩) hd.out ?_
                        dsimp only [List.set_cons_zero, List.set_cons_succ]
                        refine tkL (i := 25) (d := 217) (v := (.bool false)) rfl rfl (Or.inl ⟨by rfl, by intro W hW; clear hW; go_simp⟩) hd.out ?_
                        dsimp only [List.set_cons_zero, List.set_cons_succ]
                        refine tkL (i := 26) (d := 218) (v := (.bool false)) rfl rfl (Or.inl ⟨by rfl, by intro W hW; clear hW; go_simp⟩) hd.out ?_
                        dsimp only [List.set_cons_zero, List.set_cons_succ]
                        refine wpAnyH_done (by kernel_rfl) ?_ _
                        have hdz := hd
                        go_wp2_with fail
                        go_meet
                        exact ⟨rfl, hdz⟩
                      · obtain ⟨j, hj⟩ : ∃ j, i = j + 1 := ⟨i - 1, by omega⟩
                        obtain ⟨pr, hpr1⟩ := hpr.out j hj
                        have hprk : IsK pr := hP.out.ru.ok pr (List.mem_of_getElem? hpr1)
                        have hpr32 : Hid ((u8s pr).length = 32) := Lib.hid (by simp [u8s, hprk.1])
                        have hji : Hid (i - 1 = j) := Lib.hid (by omega)
                        have hpk : Hid (∀ W, Below w6.heap.size w6 W → W.rangeAt b (off + (i - 1) * 32) (u8s pr)) := Lib.hid fun W hW => by
                          rw [hji.out]
                          exact rangeAt_below hW hbl'.out (hpw.out j pr hpr1)
                        have hlt3 : cmpK pr x = -1 := rise_lt hP.out.ru hpr1 (hj ▸ hx'.out)
                        have hCm : Hid (∀ W, Calls Try.prog 9 #[.agg (u8s pr).toArray, .agg (u8s x).toArray] W fun e w' => e = .returned (.int .i64 (-1)) ∧ Below W.heap.size W w') := Lib.hid fun W => by
                          have := cmpN_any W pr x hprk hxk.out
                          rwa [hlt3] at this
                        have hj0 : Hid (decide (0 < i) = true) := Lib.hid (by simp; omega)
                        have hja : Hid (((i : Int) - 1).toNat = i - 1) := Lib.hid (by omega)
                        have hjb : Hid ((0 : Int) ≤ (i : Int) - 1) := Lib.hid (by omega)
                        have hjd : Hid (¬ ((i : Int) < 1)) := Lib.hid (by omega)
                        have hjw : Hid (IntKind.i64.wrap ((i : Int) - 1) = (i : Int) - 1) := Lib.hid (by rw [IntKind.wrap_i64]; omega)
                        have hjc : Hid ((i : Int) - 1 < (lU : Int)) := Lib.hid (by omega)
                        clear hi0 hj hpr1 hprk hlt3 hSh hHx hFi hFl hNx2
                        refine wp_region_held (S := AtS w6 g13 x) (by kernel_rfl) ?_
                        change wpAnyH _ _ _ _ _ _ _ _ (World.drew _)
                        refine tkL (i := 0) (d := 192) (v := (.bool true)) rfl rfl (Or.inl ⟨by rfl, by intro W hW; clear hW; go_simp⟩) hd.out ?_
                        dsimp only [List.set_cons_zero, List.set_cons_succ]
                        refine tkL (i := 1) (d := 193) (v := (.bool false)) rfl rfl (Or.inl ⟨by rfl, by intro W hW; clear hW; go_simp⟩) hd.out ?_
                        dsimp only [List.set_cons_zero, List.set_cons_succ]
                        refine tkL (i := 2) (d := 194) (v := (.bool false)) rfl rfl (Or.inl ⟨by rfl, by intro W hW; clear hW; go_simp⟩) hd.out ?_
                        dsimp only [List.set_cons_zero, List.set_cons_succ]
                        refine tkL (i := 3) (d := 195) (v := (.agg (u8s x).toArray)) rfl rfl (yieldsIf_load_row (by rfl) 25 _ rfl g13 rfl 25 (u8s x).toArray (0, 0) _ (fun W hW => hW.2) Try.underlying25 rfl (by rw [hxs32.out]; exact hi32.out)) hd.out ?_
                        dsimp only [List.set_cons_zero, List.set_cons_succ]
                        refine tkL (i := 4) (d := 196) (v := (.slice (some ⟨b, off, none⟩) lU cL)) rfl rfl (Or.inl ⟨by rfl, by intro W hW; clear hW; go_simp⟩) hd.out ?_
                        dsimp only [List.set_cons_zero, List.set_cons_succ]
                        refine tkL (i := 5) (d := 197) (v := (.int .i64 (i : Int))) rfl rfl (Or.inl ⟨by rfl, by intro W hW; clear hW; go_simp⟩) hd.out ?_
                        dsimp only [List.set_cons_zero, List.set_cons_succ]
                        refine tkL (i := 6) (d := 198) (v := (.pointer (some ⟨b, off + i * 32, none⟩))) rfl rfl (Or.inl ⟨by rfl, by intro W hW; clear hW; go_simp⟩) hd.out ?_
                        dsimp only [List.set_cons_zero, List.set_cons_succ]
                        refine tkL (i := 7) (d := 199) (v := (.agg (u8s x).toArray)) rfl rfl (yieldsIf_load_mid (by rfl) 25 _ rfl b (off + i * 32) rfl (u8s x) _ (fun W hW => hrk.out W hW.1) Try.underlying25 rfl (by rw [hx32.out]; exact hi32.out)) hd.out ?_
                        dsimp only [List.set_cons_zero, List.set_cons_succ]
                        refine tkL (i := 8) (d := 200) (v := (.bool false)) rfl rfl (yieldsIf_binA (by rfl) .neq 25 _ _ _ rfl (.agg (u8s x).toArray) (.agg (u8s x).toArray) rfl rfl (.bool false) (fun _ => rfl) (fun W _ => hne.out W)) hd.out ?_
                        dsimp only [List.set_cons_zero, List.set_cons_succ]
                        refine tkL (i := 9) (d := 201) (v := (.bool false)) rfl rfl (Or.inl ⟨by rfl, by intro W hW; clear hW; go_simp⟩) hd.out ?_
                        dsimp only [List.set_cons_zero, List.set_cons_succ]
                        refine tkL (i := 10) (d := 202) (v := (.bool false)) rfl rfl (Or.inl ⟨by rfl, by intro W hW; clear hW; go_simp⟩) hd.out ?_
                        dsimp only [List.set_cons_zero, List.set_cons_succ]
                        refine tkL (i := 11) (d := 203) (v := (.int .i64 (i : Int))) rfl rfl (Or.inl ⟨by rfl, by intro W hW; clear hW; go_simp⟩) hd.out ?_
                        dsimp only [List.set_cons_zero, List.set_cons_succ]
                        refine tkL (i := 12) (d := 204) (v := (.bool true)) rfl rfl (Or.inl ⟨by rfl, by intro W hW; have hh := hj0.out; clear hW; go_simp⟩) hd.out ?_
                        dsimp only [List.set_cons_zero, List.set_cons_succ]
                        refine tkL (i := 13) (d := 205) (v := (.bool true)) rfl rfl (Or.inl ⟨by rfl, by intro W hW; clear hW; go_simp⟩) hd.out ?_
                        dsimp only [List.set_cons_zero, List.set_cons_succ]
                        refine tkL (i := 14) (d := 206) (v := (.slice (some ⟨b, off, none⟩) lU cL)) rfl rfl (Or.inl ⟨by rfl, by intro W hW; clear hW; go_simp⟩) hd.out ?_
                        dsimp only [List.set_cons_zero, List.set_cons_succ]
                        refine tkL (i := 15) (d := 207) (v := (.int .i64 (i : Int))) rfl rfl (Or.inl ⟨by rfl, by intro W hW; clear hW; go_simp⟩) hd.out ?_
                        dsimp only [List.set_cons_zero, List.set_cons_succ]
                        refine tkL (i := 16) (d := 208) (v := (.int .i64 ((i : Int) - 1))) rfl rfl (Or.inl ⟨by rfl, by intro W hW; have hw := hjw.out; clear hW; go_simp⟩) hd.out ?_
                        dsimp only [List.set_cons_zero, List.set_cons_succ]
                        refine tkL (i := 17) (d := 209) (v := (.pointer (some ⟨b, off + (i - 1) * 32, none⟩))) rfl rfl (Or.inl ⟨by rfl, by intro W hW; have h1 := hja.out; have h2 := hjb.out; have h3 := hjc.out; have h4 := hjd.out; clear hW; go_simp⟩) hd.out ?_
                        dsimp only [List.set_cons_zero, List.set_cons_succ]
                        refine tkL (i := 18) (d := 210) (v := (.agg (u8s pr).toArray)) rfl rfl (yieldsIf_load_mid (by rfl) 25 _ rfl b (off + (i - 1) * 32) rfl (u8s pr) _ (fun W hW => hpk.out W hW.1) Try.underlying25 rfl (by rw [hpr32.out]; exact hi32.out)) hd.out ?_
                        dsimp only [List.set_cons_zero, List.set_cons_succ]
                        refine tkL (i := 19) (d := 211) (v := (.slice (some ⟨b, off, none⟩) lU cL)) rfl rfl (Or.inl ⟨by rfl, by intro W hW; clear hW; go_simp⟩) hd.out ?_
                        dsimp only [List.set_cons_zero, List.set_cons_succ]
                        refine tkL (i := 20) (d := 212) (v := (.int .i64 (i : Int))) rfl rfl (Or.inl ⟨by rfl, by intro W hW; clear hW; go_simp⟩) hd.out ?_
                        dsimp only [List.set_cons_zero, List.set_cons_succ]
                        refine tkL (i := 21) (d := 213) (v := (.pointer (some ⟨b, off + i * 32, none⟩))) rfl rfl (Or.inl ⟨by rfl, by intro W hW; clear hW; go_simp⟩) hd.out ?_
                        dsimp only [List.set_cons_zero, List.set_cons_succ]
                        refine tkL (i := 22) (d := 214) (v := (.agg (u8s x).toArray)) rfl rfl (yieldsIf_load_mid (by rfl) 25 _ rfl b (off + i * 32) rfl (u8s x) _ (fun W hW => hrk.out W hW.1) Try.underlying25 rfl (by rw [hx32.out]; exact hi32.out)) hd.out ?_
                        dsimp only [List.set_cons_zero, List.set_cons_succ]
                        refine wpAnyH_ready (rs := [23]) (by kernel_rfl) (by simp) ?_
                        refine AllReadyH.cons rfl (fun K hK => ?_) AllReadyH.nil
                        go_simp
                        refine (hCm.out _).mono ?_
                        rintro e v1 ⟨rfl, q1⟩
                        have hd1 : Hid (AtS w6 g13 x v1) := Lib.hid (hd.out.keep q1)
                        clear q1
                        refine hK.out _ _ hd1.out (fun _ => ?_)
                        clear hK K
                        refine tkL (i := 24) (d := 216) (v := (.bool false)) rfl rfl (Or.inl ⟨by rfl, by intro W hW; clear hW; go_simp⟩) hd1.out ?_
                        dsimp only [List.set_cons_zero, List.set_cons_succ]
                        refine tkL (i := 25) (d := 217) (v := (.bool false)) rfl rfl (Or.inl ⟨by rfl, by intro W hW; clear hW; go_simp⟩) hd1.out ?_
                        dsimp only [List.set_cons_zero, List.set_cons_succ]
                        refine tkL (i := 26) (d := 218) (v := (.bool false)) rfl rfl (Or.inl ⟨by rfl, by intro W hW; clear hW; go_simp⟩) hd1.out ?_
                        dsimp only [List.set_cons_zero, List.set_cons_succ]
                        refine wpAnyH_done (by kernel_rfl) ?_ _
                        have hdz := hd1
                        go_wp2_with fail
                        go_meet
                        exact ⟨rfl, hdz⟩
                    case rest =>
                      obtain ⟨rfl, hdz⟩ := hcut
                      clear hd
                      go_wp2_with (first
                        | (refine wpList_load_mid rfl 25 _ rfl b (off + i * 32) rfl (u8s x) _ (hrk.out _ hdz.out.1) Try.underlying25 rfl (by rw [hx32.out]; exact hi32.out) ?_)
                        | (go_at_call 18; refine (hSh.out _ hdz.out).mono ?_; rintro e wA ⟨rfl, qA⟩; have hdA := Lib.hid (hdz.out.keep qA); clear qA hSh hdz)
                        | (refine wpList_load_mid_gA (by rfl) 25 _ rfl b (off + i * 32) rfl (u8s x) _ (hrk.out _ hdA.out.1) Try.underlying25 rfl (by rw [hx32.out]; exact hi32.out) ?_)
                        | (go_at_call 7; refine (hHx.out _).mono ?_; rintro e wB ⟨rfl, qB⟩; have hdB := Lib.hid (hdA.out.keep qB); clear qB hHx hdA)
                        | (go_at_call 19; refine (hFi.out _ hdB.out).mono ?_; rintro e wC ⟨rfl, qC⟩; have hdC := Lib.hid (hdB.out.keep qC); clear qC hFi hdB)
                        | (refine wpList_store_row rfl 25 _ _ rfl wC.heap.size (u8s x).toArray rfl rfl 25 _ (heap_alloc_new wC _) (by rw [hxs32.out]; exact hi32.out) (by rw [hxs32.out, hzs.out]) (all_oneCell_toArray u8s_one) ?_))
                      obtain ⟨wD, hwD⟩ : ∃ wD, (wC.alloc (.cells (u8s (zeros 32)).toArray 25)).setRow wC.heap.size (u8s x).toArray = wD := ⟨_, rfl⟩
                      have hkn := key_new wC x
                      rw [hwD] at hkn ⊢
                      have hd : Hid (AtS w6 g13 x wD.drew ∧ wD.drew.heap[wC.heap.size]? = some (.cells (u8s x).toArray 25 (0, 0))) := Lib.hid ⟨(hdC.out.keep hkn.2).keep (below_drewN (Below.refl _ _) 1), hkn.1⟩
                      clear hkn hwD hdC
                      generalize wC.heap.size = g18 at hd ⊢
                      refine wp_region_held (S := fun W => AtS w6 g13 x W ∧ W.heap[g18]? = some (.cells (u8s x).toArray 25 (0, 0))) (by kernel_rfl) ?_
                      change wpAnyH _ _ _ _ _ _ _ _ (World.drew _)
                      refine tkL (i := 0) (d := 258) (v := (.int .i64 0)) rfl rfl (Or.inl ⟨by rfl, by intro W hW; clear hW; go_simp⟩) hd.out ?_
                      dsimp only [List.set_cons_zero, List.set_cons_succ]
                      refine tkL (i := 1) (d := 259) (v := (.bool false)) rfl rfl (Or.inl ⟨by rfl, by intro W hW; clear hW; go_simp⟩) hd.out ?_
                      dsimp only [List.set_cons_zero, List.set_cons_succ]
                      refine tkL (i := 2) (d := 260) (v := (.bool false)) rfl rfl (Or.inl ⟨by rfl, by intro W hW; clear hW; go_simp⟩) hd.out ?_
                      dsimp only [List.set_cons_zero, List.set_cons_succ]
                      refine tkL (i := 3) (d := 261) (v := (.agg (u8s x).toArray)) rfl rfl (yieldsIf_load_row (by rfl) 25 _ rfl g18 rfl 25 (u8s x).toArray (0, 0) _ (fun W hW => hW.2) Try.underlying25 rfl (by rw [hxs32.out]; exact hi32.out)) hd.out ?_
                      dsimp only [List.set_cons_zero, List.set_cons_succ]
                      refine tkL (i := 4) (d := 262) (v := (.slice (some ⟨b, off, none⟩) lU cL)) rfl rfl (Or.inl ⟨by rfl, by intro W hW; clear hW; go_simp⟩) hd.out ?_
                      dsimp only [List.set_cons_zero, List.set_cons_succ]
                      refine tkL (i := 5) (d := 263) (v := (.int .i64 (i : Int))) rfl rfl (Or.inl ⟨by rfl, by intro W hW; clear hW; go_simp⟩) hd.out ?_
                      dsimp only [List.set_cons_zero, List.set_cons_succ]
                      refine tkL (i := 6) (d := 264) (v := (.pointer (some ⟨b, off + i * 32, none⟩))) rfl rfl (Or.inl ⟨by rfl, by intro W hW; clear hW; go_simp⟩) hd.out ?_
                      dsimp only [List.set_cons_zero, List.set_cons_succ]
                      refine tkL (i := 7) (d := 265) (v := (.agg (u8s x).toArray)) rfl rfl (yieldsIf_load_mid (by rfl) 25 _ rfl b (off + i * 32) rfl (u8s x) _ (fun W hW => hrk.out W hW.1.1) Try.underlying25 rfl (by rw [hx32.out]; exact hi32.out)) hd.out ?_
                      dsimp only [List.set_cons_zero, List.set_cons_succ]
                      refine tkL (i := 8) (d := 266) (v := (.bool false)) rfl rfl (yieldsIf_binA (by rfl) .neq 25 _ _ _ rfl (.agg (u8s x).toArray) (.agg (u8s x).toArray) rfl rfl (.bool false) (fun _ => rfl) (fun W _ => hne.out W)) hd.out ?_
                      dsimp only [List.set_cons_zero, List.set_cons_succ]
                      refine tkL (i := 9) (d := 267) (v := (.bool false)) rfl rfl (Or.inl ⟨by rfl, by intro W hW; clear hW; go_simp⟩) hd.out ?_
                      dsimp only [List.set_cons_zero, List.set_cons_succ]
                      refine wpAnyH_done (by kernel_rfl) ?_ _
                      have hdF : Hid (AtS w6 g13 x wD.drew) := Lib.hid hd.out.1
                      clear hd
                      generalize wD.drew = wE at hdF ⊢
                      by_cases h5 : 4 < p.size
                      · have h5' : (4 : Int) < (p.size : Int) := by omega
                        obtain ⟨C, hC⟩ : ∃ C, p.size - 1 = C := ⟨_, rfl⟩
                        have hCC : (p.size : Int) - 1 = (C : Int) := by omega
                        have hC1 : C ≤ p.size := by omega
                        have hC6 : C ≤ 64 := by have := hfl2.out; omega
                        have hFl2 := Lib.hid (hFl.out wE (p.extract 0 C) h5 (by rw [hC]) hdF.out)
                        clear h5 hC hFl
                        go_wp2_with (first
                          | (go_at_call 19; refine hFl2.out.mono ?_; rintro e wG ⟨rfl, qG⟩; have hdG := Lib.hid (hdF.out.keep qG); clear qG hFl2 hdF)
                          | (refine wpList_load_mid rfl 25 _ rfl b (off + i * 32) rfl (u8s x) _ (hrk.out _ hdG.out.1) Try.underlying25 rfl (by rw [hx32.out]; exact hi32.out) ?_)
                          | (go_at_call 17; refine (hNx2.out _ hdG.out).mono ?_; rintro e wH ⟨rfl, qH⟩; have hdH := Lib.hid (hdG.out.keep qH); clear qH hNx2 hdG)
                          | (refine wpList_store_row rfl 25 _ _ rfl g13 (u8s nx).toArray rfl rfl 25 _ hdH.out.2 (by rw [hnxs.out]; exact hi32.out) (by rw [hnxs.out, hxs32.out]) (all_oneCell_toArray u8s_one) ?_))
                        go_roundw
                        case rel => exact ⟨i + 1, by omega, by go_num, rfl, Lib.hid (setRow_below hdH.out.1 hg13.out _), Lib.hid (by rw [hnx'.out]; exact setRow_heap _ _ _ _ _ _ hdH.out.2)⟩
                        case measure => simp [intOf]; omega
                      · have h5' : decide ((4 : Int) < (p.size : Int)) = false := by simp; omega
                        clear h5 hFl
                        go_wp2_with (first
                          | (refine wpList_load_mid rfl 25 _ rfl b (off + i * 32) rfl (u8s x) _ (hrk.out _ hdF.out.1) Try.underlying25 rfl (by rw [hx32.out]; exact hi32.out) ?_)
                          | (go_at_call 17; refine (hNx2.out _ hdF.out).mono ?_; rintro e wH ⟨rfl, qH⟩; have hdH := Lib.hid (hdF.out.keep qH); clear qH hNx2 hdF)
                          | (refine wpList_store_row rfl 25 _ _ rfl g13 (u8s nx).toArray rfl rfl 25 _ hdH.out.2 (by rw [hnxs.out]; exact hi32.out) (by rw [hnxs.out, hxs32.out]) (all_oneCell_toArray u8s_one) ?_))
                        go_roundw
                        case rel => exact ⟨i + 1, by omega, by go_num, rfl, Lib.hid (setRow_below hdH.out.1 hg13.out _), Lib.hid (by rw [hnx'.out]; exact setRow_heap _ _ _ _ _ _ hdH.out.2)⟩
                        case measure => simp [intOf]; omega
                  · have hWk : Hid (∀ W, Calls Try.prog 20 #[] W fun e w' => e = .returned (.bool true) ∧ Below W.heap.size W w') := Lib.hid fun W => works_any W
                    rw [decide_eq_false hlt]
                    go_wp2_with (go_at_call 20; refine (hWk.out _).mono ?_; rintro e wz ⟨rfl, qz⟩; have qz' := Lib.hid qz; clear qz hWk)
                    go_ret
                    have hbz := hW6.out.bel.trans (hb.out.mono hW6.out.bel.size)
                    exact ⟨rfl, hbz.trans (qz'.out.mono hbz.size)⟩
end Go.Proofs.Ytlolnpilpdkbkaa
