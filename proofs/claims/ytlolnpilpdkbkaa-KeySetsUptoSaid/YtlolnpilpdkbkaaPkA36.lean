/- KeySets: changes, kind 8. (Printed by tools/genac.py.) KeySets: changes, kind 9. (Printed by tools/genac.py.) -/
import Derived.Test.YtlolnpilpdkbkaaPkA34

namespace Go.Proofs.Ytlolnpilpdkbkaa
open Go.RowKit Go.Maps
set_option linter.unusedSimpArgs false
set_option linter.unusedVariables false

set_option maxRecDepth 100000 in
set_option maxHeartbeats 4000000 in
theorem chg8 (w0 w : World) (T : List (List Nat)) (hT : T.length ≤ 1048576) (gw : Nat) (P : Nat → Pl) (Ak : Option Addr) (ck : Nat) (L : List Kp) (h : WS w0 T gw P Ak ck L w) (hE : Eqs P) (s : St) (hs : StOk w0 T s)
    (hk : s.kind = 8) :
    Calls Try.prog 24 #[.pointer (some ⟨gw, 0, none⟩), .agg (stepL s).toArray] w (ChgP w0 T gw Ak ck L) := by
  obtain ⟨gs, hgs⟩ : ∃ gs, w.heap.size = gs := ⟨_, rfl⟩
  obtain ⟨w1, hw1⟩ : ∃ w1, w.alloc (.cells (stepL s).toArray 60) = w1 := ⟨_, rfl⟩
  have hB : Below w.heap.size w w1 := by rw [← hw1]; exact (Below.refl _ _).alloc (Nat.le_refl _) _
  have hW1 := Lib.hid (h.keep hB)
  have hS1 : Hid (SB gs s w1) := Lib.hid (by rw [← hw1, ← hgs]; exact heap_alloc_new w _)
  obtain ⟨i, hi⟩ : ∃ i, th s.on = i := ⟨_, rfl⟩
  have hi3 : i < 3 := by rw [← hi]; exact th_lt _
  obtain ⟨j, hj⟩ : ∃ j, th s.wi = j := ⟨_, rfl⟩
  have hj3 : j < 3 := by rw [← hj]; exact th_lt _
  have h3a : Hid (∀ (W : World), Calls Try.prog 39 #[.int .i64 s.on] W fun e w' => e = .returned (.int .i64 (i : Int)) ∧ W = w') := Lib.hid (fun W => (three_any W s.on).mono fun e w' ⟨a, b⟩ => ⟨by rw [← hi]; exact a, b.symm⟩)
  have h3b : Hid (∀ (W : World), Calls Try.prog 39 #[.int .i64 s.wi] W fun e w' => e = .returned (.int .i64 (j : Int)) ∧ W = w') := Lib.hid (fun W => (three_any W s.wi).mono fun e w' ⟨a, b⟩ => ⟨by rw [← hj]; exact a, b.symm⟩)
  have hi3' := Lib.hid hi3
  have hj3' := Lib.hid hj3
  have hi3i : (i : Int) < 3 := by omega
  have hj3i : (j : Int) < 3 := by omega
  obtain ⟨p, hp⟩ : ∃ p, P i = p := ⟨_, rfl⟩
  have hp' := Lib.hid hp
  have hE' := Lib.hid hE
  have hEi : Hid (p.kp = p.kr) := Lib.hid (by rw [← hp]; exact hE i hi3)
  obtain ⟨Q, hQ⟩ : ∃ Q, ChgP w0 T gw Ak ck L = Q := ⟨_, rfl⟩
  have hfin : Hid (∀ P' W, Eqs P' → WS w0 T gw P' Ak ck L W → Q (.returned (.bool true)) W) := Lib.hid fun P' W he hW => by rw [← hQ]; exact ⟨rfl, P', he, hW⟩
  rw [hQ]
  have hs' := Lib.hid hs
  have hT' := Lib.hid hT
  obtain ⟨vs, hvs⟩ : ∃ vs, (stepL s).toArray = vs := ⟨_, rfl⟩
  rw [hvs] at hw1 ⊢
  have c0 := hS1.out.c0
  have c1 := hS1.out.c1
  have c2 := hS1.out.c2
  have d0 := hW1.out.cp hi3
  have d1 := hW1.out.cr hi3
  rw [hp] at d0 d1
  obtain ⟨vp, hvp⟩ : ∃ vp, pv p.o = vp := ⟨_, rfl⟩
  obtain ⟨q, hq⟩ : ∃ q, p.q = q := ⟨_, rfl⟩
  rw [hvp] at d0
  rw [hq] at d1
  have hvp' := Lib.hid hvp
  have hq' := Lib.hid hq
  have hi32 : Hid ((Try.prog.info? 25).map (·.size) = some 32) := Lib.hid (by kernel_rfl)
  have hzk := zeroKy
  have hkl : Hid (s.key.length = 32) := Lib.hid hs.key.1
  have hks : Hid ((u8s s.key).length = 32) := Lib.hid (by simp [u8s, hs.key.1])
  have hpl : Hid (∀ W, WS w0 T gw P Ak ck L W → PlAt w0 T p W) := Lib.hid fun W hW => by rw [← hp]; exact hW.pl i hi3
  obtain ⟨pj, hpj⟩ : ∃ pj, P j = pj := ⟨_, rfl⟩
  have hEj : Hid (pj.kp = pj.kr) := Lib.hid (by rw [← hpj]; exact hE j hj3)
  have hplj : Hid (∀ W, WS w0 T gw P Ak ck L W → PlAt w0 T pj W) := Lib.hid fun W hW => by rw [← hpj]; exact hW.pl j hj3
  obtain ⟨vj, hvj⟩ : ∃ vj, pv pj.o = vj := ⟨_, rfl⟩
  obtain ⟨qj, hqj⟩ : ∃ qj, pj.q = qj := ⟨_, rfl⟩
  obtain ⟨KU, hKU⟩ : ∃ KU, takeK (unionT p.kr pj.kr) pj.kr (takeK (unionT p.kr pj.kr) p.kr []) = KU := ⟨_, rfl⟩
  have hr1 := (hpl.out _ hW1.out).rise
  have hr2 := (hplj.out _ hW1.out).rise
  have hKr : Hid (Rise32 KU) := Lib.hid (by rw [← hKU]; exact takeK_rise hr2.ok (takeK_rise hr1.ok Rise32.nil))
  have hKT : Hid (∀ x ∈ KU, x ∈ T) := Lib.hid fun x hx => by
    rw [← hKU] at hx
    rcases mem_takeK.1 hx with h | h
    · exact (hplj.out _ hW1.out).inR x h.1
    · rcases mem_takeK.1 h with h | h
      · exact (hpl.out _ hW1.out).inR x h.1
      · simp at h
  have hU : Hid (∀ W, WS w0 T gw P Ak ck L W → Calls Try.prog 11 #[vp, vj] W fun e w' => ∃ so mo, e = .returned (.pointer (some ⟨so, 0, none⟩)) ∧ SetO w' (some (so, mo)) KU ∧ Below W.heap.size W w' ∧ W.heap.size ≤ so ∧ W.heap.size ≤ mo) := Lib.hid fun W hW => by
    have h1 := hpl.out W hW
    have h2 := hplj.out W hW
    have := unionO_any W p.o pj.o p.kp pj.kp h1.set h2.set (by have := h1.lenP; have := hT'.out; omega) (by have := h2.lenP; have := hT'.out; omega)
    rw [hvp, hvj, hEi.out, hEj.out, hKU] at this
    exact this.mono fun e w' ⟨so, mo, N, a1, a2, a3, a4, a5, _⟩ => ⟨so, mo, a1, ⟨N, a2⟩, a3, a4, a5⟩
  have hV : Hid (∀ W, WS w0 T gw P Ak ck L W → Calls Try.prog 49 #[.pointer (some ⟨q, 0, none⟩), .pointer (some ⟨qj, 0, none⟩)] W (RNewP W KU)) := Lib.hid fun W hW => by
    have h1 := hpl.out W hW
    have h2 := hplj.out W hW
    have := rUnion_any W p.q p.c p.A p.kr h1.ref h1.rise pj.q pj.c pj.A pj.kr h2.ref h2.rise (by have := h1.lenR; have := hT'.out; omega) (by have := h2.lenR; have := hT'.out; omega)
    rw [← union_eq h1.rise h2.rise, hq, hqj, hKU] at this
    exact this
  obtain ⟨t, ht⟩ : ∃ t, th ((j : Int) + 1) = t := ⟨_, rfl⟩
  have ht3 : t < 3 := by rw [← ht]; exact (th_succ hj3).1
  have htj : j ≠ t := by rw [← ht]; exact (th_succ hj3).2
  have ht3' := Lib.hid ht3
  have htj' := Lib.hid htj
  have h3c : Hid (∀ (W : World), Calls Try.prog 39 #[.int .i64 ((j : Int) + 1)] W fun e w' => e = .returned (.int .i64 (t : Int)) ∧ W = w') := Lib.hid (fun W => (three_any W _).mono fun e w' ⟨a, b⟩ => ⟨by rw [← ht]; exact a, b.symm⟩)
  have hcS : Hid (∀ P' W, P' j = P j → WS w0 T gw P' Ak ck L W → CJ gw j vj qj W) := Lib.hid fun P' W e hW => by
    have a := hW.cp hj3
    have b := hW.cr hj3
    rw [e, hpj, hvj] at a
    rw [e, hpj, hqj] at b
    exact ⟨a, b⟩
  have hjw : IntKind.i64.wrap ((j : Int) + 1) = (j : Int) + 1 := by rw [IntKind.wrap_i64]; omega
  have hjw2 : wrap64 ((j : Int) + 1) = (j : Int) + 1 := by unfold wrap64; omega
  clear hpj hvj hqj hKU hr1 hr2 ht ht3 htj
  clear h hE hs hT hQ hB hvs hi3 hj3 hi hj hp hvp hq
  go_enter Try.func24, Try.ntmps24
  go_wp2_with fail
  go_quiet ((go_at_call 39; first | exact quiet_l (fun W => h3a.out W) | exact quiet_l (fun W => h3b.out W)))
  have hWa := Lib.hid (hW1.out.keep (below_drewN (Below.refl _ _) nq))
  have hSa := Lib.hid (hS1.out.below (below_drewN (Below.refl _ _) nq))
  clear hW1 hS1 c0 c1 c2 d0 d1
  generalize w1.drewN nq = wa at hWa hSa ⊢
  have d0 := hWa.out.cp hi3'.out
  have d1 := hWa.out.cr hi3'.out
  rw [hp'.out] at d0 d1
  rw [hvp'.out] at d0
  rw [hq'.out] at d1
  go_wp2_with fail
  go_quiet (fail)
  have hW2 := Lib.hid (hWa.out.keep (below_drewN (Below.refl _ _) nq))
  have hS2 := Lib.hid (hSa.out.below (below_drewN (Below.refl _ _) nq))
  clear hWa hSa d0 d1
  generalize wa.drewN nq = w2 at hW2 hS2 ⊢
  have c0 := hS2.out.c0
  rw [hk] at c0
  go_wp2_with fail
  have whd : Hid (WS _ _ _ _ _ _ _ w2.drew) := Lib.hid (hW2.out.keep (below_drewN (Below.refl _ _) 1))
  have hd : Hid (CJ gw j vj qj w2.drew) := Lib.hid (hcS.out P _ rfl whd.out)
  refine wp_region_held (S := CJ gw j vj qj) (by kernel_rfl) ?_
  change wpAnyH _ _ _ _ _ _ _ _ (World.drew _)
  refine tk (i := 0) (d := 84) (v := (.pointer (some ⟨gw, 0, none⟩))) rfl rfl (Or.inl ⟨by rfl, by intro W hW; clear hW; go_simp⟩) hd.out ?_
  simp only [List.setIfInBounds_toArray, List.set_cons_zero, List.set_cons_succ]
  refine tk (i := 1) (d := 85) (v := (.int .i64 (j : Int))) rfl rfl (Or.inl ⟨by rfl, by intro W hW; clear hW; go_simp⟩) hd.out ?_
  simp only [List.setIfInBounds_toArray, List.set_cons_zero, List.set_cons_succ]
  refine tk (i := 2) (d := 86) (v := (.int .i64 ((j : Int) + 1))) rfl rfl (Or.inl ⟨by rfl, by intro W hW; clear hW; go_simp⟩) hd.out ?_
  simp only [List.setIfInBounds_toArray, List.set_cons_zero, List.set_cons_succ]
  refine tk (i := 4) (d := 88) (v := (vp)) rfl rfl (Or.inl ⟨by rfl, by intro W hW; clear hW; go_simp⟩) hd.out ?_
  simp only [List.setIfInBounds_toArray, List.set_cons_zero, List.set_cons_succ]
  refine tk (i := 5) (d := 89) (v := (.pointer (some ⟨gw, 0, none⟩))) rfl rfl (Or.inl ⟨by rfl, by intro W hW; clear hW; go_simp⟩) hd.out ?_
  simp only [List.setIfInBounds_toArray, List.set_cons_zero, List.set_cons_succ]
  refine tk (i := 6) (d := 90) (v := (.int .i64 (j : Int))) rfl rfl (Or.inl ⟨by rfl, by intro W hW; clear hW; go_simp⟩) hd.out ?_
  simp only [List.setIfInBounds_toArray, List.set_cons_zero, List.set_cons_succ]
  refine tk (i := 7) (d := 91) (v := (.pointer (some ⟨gw, 0, none⟩))) rfl rfl (Or.inl ⟨by rfl, by intro W hW; clear hW; go_simp⟩) hd.out ?_
  simp only [List.setIfInBounds_toArray, List.set_cons_zero, List.set_cons_succ]
  refine tk (i := 8) (d := 92) (v := (.pointer (some ⟨gw, 0, none⟩))) rfl rfl (Or.inl ⟨by rfl, by intro W hW; clear hW; go_simp⟩) hd.out ?_
  simp only [List.setIfInBounds_toArray, List.set_cons_zero, List.set_cons_succ]
  refine tk (i := 9) (d := 93) (v := (.pointer (some ⟨gw, j, none⟩))) rfl rfl (Or.inl ⟨by rfl, by intro W hW; clear hW; go_simp⟩) hd.out ?_
  simp only [List.setIfInBounds_toArray, List.set_cons_zero, List.set_cons_succ]
  refine tk (i := 10) (d := 94) (v := (vj)) rfl rfl (Or.inl ⟨by rfl, by intro W hW; have c0 := hW.p; clear hW; go_simp⟩) hd.out ?_
  simp only [List.setIfInBounds_toArray, List.set_cons_zero, List.set_cons_succ]
  refine tk (i := 12) (d := 96) (v := (.pointer (some ⟨q, 0, none⟩))) rfl rfl (Or.inl ⟨by rfl, by intro W hW; clear hW; go_simp⟩) hd.out ?_
  simp only [List.setIfInBounds_toArray, List.set_cons_zero, List.set_cons_succ]
  refine tk (i := 13) (d := 97) (v := (.pointer (some ⟨gw, 0, none⟩))) rfl rfl (Or.inl ⟨by rfl, by intro W hW; clear hW; go_simp⟩) hd.out ?_
  simp only [List.setIfInBounds_toArray, List.set_cons_zero, List.set_cons_succ]
  refine tk (i := 14) (d := 98) (v := (.int .i64 (j : Int))) rfl rfl (Or.inl ⟨by rfl, by intro W hW; clear hW; go_simp⟩) hd.out ?_
  simp only [List.setIfInBounds_toArray, List.set_cons_zero, List.set_cons_succ]
  refine tk (i := 15) (d := 99) (v := (.pointer (some ⟨gw, 0, none⟩))) rfl rfl (Or.inl ⟨by rfl, by intro W hW; clear hW; go_simp⟩) hd.out ?_
  simp only [List.setIfInBounds_toArray, List.set_cons_zero, List.set_cons_succ]
  refine tk (i := 16) (d := 100) (v := (.pointer (some ⟨gw, 3, none⟩))) rfl rfl (Or.inl ⟨by rfl, by intro W hW; clear hW; go_simp⟩) hd.out ?_
  simp only [List.setIfInBounds_toArray, List.set_cons_zero, List.set_cons_succ]
  refine tk (i := 17) (d := 101) (v := (.pointer (some ⟨gw, 3 + j, none⟩))) rfl rfl (Or.inl ⟨by rfl, by intro W hW; clear hW; go_simp⟩) hd.out ?_
  simp only [List.setIfInBounds_toArray, List.set_cons_zero, List.set_cons_succ]
  refine tk (i := 18) (d := 102) (v := (.pointer (some ⟨qj, 0, none⟩))) rfl rfl (Or.inl ⟨by rfl, by intro W hW; have c0 := hW.r; clear hW; go_simp⟩) hd.out ?_
  simp only [List.setIfInBounds_toArray, List.set_cons_zero, List.set_cons_succ]
  refine wpAnyH_ready (rs := [3]) (by kernel_rfl) (by simp) ?_
  refine AllReadyH.cons rfl (fun K hK => ?_) AllReadyH.nil
  go_simp
  refine (h3c.out _).mono ?_
  rintro e v1 ⟨rfl, rfl⟩
  refine hK.out _ _ hd.out (fun _ => ?_)
  clear hK K
  refine wpAnyH_ready (rs := [11]) (by kernel_rfl) (by simp) ?_
  refine AllReadyH.cons rfl (fun K hK => ?_) AllReadyH.nil
  go_simp
  refine (hU.out _ whd.out).mono ?_
  rintro e vu ⟨so, mo, rfl, hset, qu, l1, l2⟩
  have whdu := Lib.hid (whd.out.keep qu)
  have hdu : Hid (CJ gw j vj qj vu) := Lib.hid (hcS.out P _ rfl whdu.out)
  have hset' := Lib.hid hset
  have hl := Lib.hid (⟨l1, l2⟩ : _ ∧ _)
  have hsz := Lib.hid qu.size
  clear qu l1 l2 hset
  refine hK.out _ _ hdu.out (fun _ => ?_)
  clear hK K
  refine wpAnyH_ready (rs := [19]) (by kernel_rfl) (by simp) ?_
  refine AllReadyH.cons rfl (fun K hK => ?_) AllReadyH.nil
  go_simp
  refine (hV.out _ whdu.out).mono ?_
  rintro e vv ⟨q2, A2, c2, rfl, href, qv, l3⟩
  have whdv := Lib.hid (whdu.out.keep qv)
  have hdv : Hid (CJ gw j vj qj vv) := Lib.hid (hcS.out P _ rfl whdv.out)
  have hset2 := Lib.hid (hset'.out.below qv)
  have hpn : Hid (PlAt w0 T ⟨some (so, mo), KU, q2, A2, c2, KU⟩ vv) := Lib.hid ⟨hset2.out, href, hKr.out, Nat.le_trans whdu.out.bel.size l3, fun r hr => by cases hr; exact ⟨Nat.le_trans whd.out.bel.size hl.out.1, Nat.le_trans whd.out.bel.size hl.out.2⟩, hKT.out, hKT.out⟩
  have hnw := Lib.hid (whd.out.fresh (t := t) hl.out.1 hl.out.2 (Nat.le_trans hsz.out l3))
  clear qv l3 href
  refine hK.out _ _ hdv.out (fun _ => ?_)
  clear hK K
  refine wpAnyH_ready (rs := [20]) (by kernel_rfl) (by simp) ?_
  refine AllReadyH.cons rfl (fun K hK => ?_) AllReadyH.nil
  go_simp
  refine (put_any w0 _ T gw P Ak ck L whdv.out t ht3'.out so mo KU q2 A2 c2 KU hpn.out hnw.out).mono ?_
  rintro e vp2 ⟨rfl, hW9⟩
  have whdp := Lib.hid hW9
  have hdp : Hid (CJ gw j vj qj vp2) := Lib.hid (hcS.out _ _ (upP_other P _ htj'.out) hW9)
  clear hW9
  refine hK.out _ _ hdp.out (fun _ => ?_)
  clear hK K
  refine tk (i := 21) (d := 4) (v := (.bool true)) rfl rfl (Or.inl ⟨by rfl, by intro W hW; clear hW; go_simp⟩) hdp.out ?_
  simp only [List.setIfInBounds_toArray, List.set_cons_zero, List.set_cons_succ]
  refine wpAnyH_done (by kernel_rfl) ?_ _
  have hf := Lib.hid (hfin.out _ _ (hE'.out.up t _ rfl) whdp.out)
  go_wp2_with fail
  exact hf.out
end Go.Proofs.Ytlolnpilpdkbkaa

namespace Go.Proofs.Ytlolnpilpdkbkaa
open Go.RowKit Go.Maps
set_option linter.unusedSimpArgs false
set_option linter.unusedVariables false

set_option maxRecDepth 100000 in
set_option maxHeartbeats 4000000 in
theorem chg9 (w0 w : World) (T : List (List Nat)) (hT : T.length ≤ 1048576) (gw : Nat) (P : Nat → Pl) (Ak : Option Addr) (ck : Nat) (L : List Kp) (h : WS w0 T gw P Ak ck L w) (hE : Eqs P) (s : St) (hs : StOk w0 T s)
    (hk : s.kind = 9) :
    Calls Try.prog 24 #[.pointer (some ⟨gw, 0, none⟩), .agg (stepL s).toArray] w (ChgP w0 T gw Ak ck L) := by
  obtain ⟨gs, hgs⟩ : ∃ gs, w.heap.size = gs := ⟨_, rfl⟩
  obtain ⟨w1, hw1⟩ : ∃ w1, w.alloc (.cells (stepL s).toArray 60) = w1 := ⟨_, rfl⟩
  have hB : Below w.heap.size w w1 := by rw [← hw1]; exact (Below.refl _ _).alloc (Nat.le_refl _) _
  have hW1 := Lib.hid (h.keep hB)
  have hS1 : Hid (SB gs s w1) := Lib.hid (by rw [← hw1, ← hgs]; exact heap_alloc_new w _)
  obtain ⟨i, hi⟩ : ∃ i, th s.on = i := ⟨_, rfl⟩
  have hi3 : i < 3 := by rw [← hi]; exact th_lt _
  obtain ⟨j, hj⟩ : ∃ j, th s.wi = j := ⟨_, rfl⟩
  have hj3 : j < 3 := by rw [← hj]; exact th_lt _
  have h3a : Hid (∀ (W : World), Calls Try.prog 39 #[.int .i64 s.on] W fun e w' => e = .returned (.int .i64 (i : Int)) ∧ W = w') := Lib.hid (fun W => (three_any W s.on).mono fun e w' ⟨a, b⟩ => ⟨by rw [← hi]; exact a, b.symm⟩)
  have h3b : Hid (∀ (W : World), Calls Try.prog 39 #[.int .i64 s.wi] W fun e w' => e = .returned (.int .i64 (j : Int)) ∧ W = w') := Lib.hid (fun W => (three_any W s.wi).mono fun e w' ⟨a, b⟩ => ⟨by rw [← hj]; exact a, b.symm⟩)
  have hi3' := Lib.hid hi3
  have hj3' := Lib.hid hj3
  have hi3i : (i : Int) < 3 := by omega
  have hj3i : (j : Int) < 3 := by omega
  obtain ⟨p, hp⟩ : ∃ p, P i = p := ⟨_, rfl⟩
  have hp' := Lib.hid hp
  have hE' := Lib.hid hE
  have hEi : Hid (p.kp = p.kr) := Lib.hid (by rw [← hp]; exact hE i hi3)
  obtain ⟨Q, hQ⟩ : ∃ Q, ChgP w0 T gw Ak ck L = Q := ⟨_, rfl⟩
  have hfin : Hid (∀ P' W, Eqs P' → WS w0 T gw P' Ak ck L W → Q (.returned (.bool true)) W) := Lib.hid fun P' W he hW => by rw [← hQ]; exact ⟨rfl, P', he, hW⟩
  rw [hQ]
  have hs' := Lib.hid hs
  have hT' := Lib.hid hT
  obtain ⟨vs, hvs⟩ : ∃ vs, (stepL s).toArray = vs := ⟨_, rfl⟩
  rw [hvs] at hw1 ⊢
  have c0 := hS1.out.c0
  have c1 := hS1.out.c1
  have c2 := hS1.out.c2
  have d0 := hW1.out.cp hi3
  have d1 := hW1.out.cr hi3
  rw [hp] at d0 d1
  obtain ⟨vp, hvp⟩ : ∃ vp, pv p.o = vp := ⟨_, rfl⟩
  obtain ⟨q, hq⟩ : ∃ q, p.q = q := ⟨_, rfl⟩
  rw [hvp] at d0
  rw [hq] at d1
  have hvp' := Lib.hid hvp
  have hq' := Lib.hid hq
  have hi32 : Hid ((Try.prog.info? 25).map (·.size) = some 32) := Lib.hid (by kernel_rfl)
  have hzk := zeroKy
  have hkl : Hid (s.key.length = 32) := Lib.hid hs.key.1
  have hks : Hid ((u8s s.key).length = 32) := Lib.hid (by simp [u8s, hs.key.1])
  have hpl : Hid (∀ W, WS w0 T gw P Ak ck L W → PlAt w0 T p W) := Lib.hid fun W hW => by rw [← hp]; exact hW.pl i hi3
  obtain ⟨pj, hpj⟩ : ∃ pj, P j = pj := ⟨_, rfl⟩
  have hEj : Hid (pj.kp = pj.kr) := Lib.hid (by rw [← hpj]; exact hE j hj3)
  have hplj : Hid (∀ W, WS w0 T gw P Ak ck L W → PlAt w0 T pj W) := Lib.hid fun W hW => by rw [← hpj]; exact hW.pl j hj3
  obtain ⟨vj, hvj⟩ : ∃ vj, pv pj.o = vj := ⟨_, rfl⟩
  obtain ⟨qj, hqj⟩ : ∃ qj, pj.q = qj := ⟨_, rfl⟩
  obtain ⟨KU, hKU⟩ : ∃ KU, takeK (bothT p.kr pj.kr) pj.kr (takeK (bothT p.kr pj.kr) p.kr []) = KU := ⟨_, rfl⟩
  have hr1 := (hpl.out _ hW1.out).rise
  have hr2 := (hplj.out _ hW1.out).rise
  have hKr : Hid (Rise32 KU) := Lib.hid (by rw [← hKU]; exact takeK_rise hr2.ok (takeK_rise hr1.ok Rise32.nil))
  have hKT : Hid (∀ x ∈ KU, x ∈ T) := Lib.hid fun x hx => by
    rw [← hKU] at hx
    rcases mem_takeK.1 hx with h | h
    · exact (hplj.out _ hW1.out).inR x h.1
    · rcases mem_takeK.1 h with h | h
      · exact (hpl.out _ hW1.out).inR x h.1
      · simp at h
  have hU : Hid (∀ W, WS w0 T gw P Ak ck L W → Calls Try.prog 12 #[vp, vj] W fun e w' => ∃ so mo, e = .returned (.pointer (some ⟨so, 0, none⟩)) ∧ SetO w' (some (so, mo)) KU ∧ Below W.heap.size W w' ∧ W.heap.size ≤ so ∧ W.heap.size ≤ mo) := Lib.hid fun W hW => by
    have h1 := hpl.out W hW
    have h2 := hplj.out W hW
    have := bothO_any W p.o pj.o p.kp pj.kp h1.set h2.set (by have := h1.lenP; have := hT'.out; omega) (by have := h2.lenP; have := hT'.out; omega)
    rw [hvp, hvj, hEi.out, hEj.out, hKU] at this
    exact this.mono fun e w' ⟨so, mo, N, a1, a2, a3, a4, a5, _⟩ => ⟨so, mo, a1, ⟨N, a2⟩, a3, a4, a5⟩
  have hV : Hid (∀ W, WS w0 T gw P Ak ck L W → Calls Try.prog 50 #[.pointer (some ⟨q, 0, none⟩), .pointer (some ⟨qj, 0, none⟩)] W (RNewP W KU)) := Lib.hid fun W hW => by
    have h1 := hpl.out W hW
    have h2 := hplj.out W hW
    have := rBoth_any W p.q p.c p.A p.kr h1.ref h1.rise pj.q pj.c pj.A pj.kr h2.ref h2.rise (by have := h1.lenR; have := hT'.out; omega) (by have := h2.lenR; have := hT'.out; omega)
    rw [← both_eq h1.rise h2.rise, hq, hqj, hKU] at this
    exact this
  obtain ⟨t, ht⟩ : ∃ t, th ((j : Int) + 1) = t := ⟨_, rfl⟩
  have ht3 : t < 3 := by rw [← ht]; exact (th_succ hj3).1
  have htj : j ≠ t := by rw [← ht]; exact (th_succ hj3).2
  have ht3' := Lib.hid ht3
  have htj' := Lib.hid htj
  have h3c : Hid (∀ (W : World), Calls Try.prog 39 #[.int .i64 ((j : Int) + 1)] W fun e w' => e = .returned (.int .i64 (t : Int)) ∧ W = w') := Lib.hid (fun W => (three_any W _).mono fun e w' ⟨a, b⟩ => ⟨by rw [← ht]; exact a, b.symm⟩)
  have hcS : Hid (∀ P' W, P' j = P j → WS w0 T gw P' Ak ck L W → CJ gw j vj qj W) := Lib.hid fun P' W e hW => by
    have a := hW.cp hj3
    have b := hW.cr hj3
    rw [e, hpj, hvj] at a
    rw [e, hpj, hqj] at b
    exact ⟨a, b⟩
  have hjw : IntKind.i64.wrap ((j : Int) + 1) = (j : Int) + 1 := by rw [IntKind.wrap_i64]; omega
  have hjw2 : wrap64 ((j : Int) + 1) = (j : Int) + 1 := by unfold wrap64; omega
  clear hpj hvj hqj hKU hr1 hr2 ht ht3 htj
  clear h hE hs hT hQ hB hvs hi3 hj3 hi hj hp hvp hq
  go_enter Try.func24, Try.ntmps24
  go_wp2_with fail
  go_quiet ((go_at_call 39; first | exact quiet_l (fun W => h3a.out W) | exact quiet_l (fun W => h3b.out W)))
  have hWa := Lib.hid (hW1.out.keep (below_drewN (Below.refl _ _) nq))
  have hSa := Lib.hid (hS1.out.below (below_drewN (Below.refl _ _) nq))
  clear hW1 hS1 c0 c1 c2 d0 d1
  generalize w1.drewN nq = wa at hWa hSa ⊢
  have d0 := hWa.out.cp hi3'.out
  have d1 := hWa.out.cr hi3'.out
  rw [hp'.out] at d0 d1
  rw [hvp'.out] at d0
  rw [hq'.out] at d1
  go_wp2_with fail
  go_quiet (fail)
  have hW2 := Lib.hid (hWa.out.keep (below_drewN (Below.refl _ _) nq))
  have hS2 := Lib.hid (hSa.out.below (below_drewN (Below.refl _ _) nq))
  clear hWa hSa d0 d1
  generalize wa.drewN nq = w2 at hW2 hS2 ⊢
  have c0 := hS2.out.c0
  rw [hk] at c0
  go_wp2_with fail
  have whd : Hid (WS _ _ _ _ _ _ _ w2.drew) := Lib.hid (hW2.out.keep (below_drewN (Below.refl _ _) 1))
  have hd : Hid (CJ gw j vj qj w2.drew) := Lib.hid (hcS.out P _ rfl whd.out)
  refine wp_region_held (S := CJ gw j vj qj) (by kernel_rfl) ?_
  change wpAnyH _ _ _ _ _ _ _ _ (World.drew _)
  refine tk (i := 0) (d := 107) (v := (.pointer (some ⟨gw, 0, none⟩))) rfl rfl (Or.inl ⟨by rfl, by intro W hW; clear hW; go_simp⟩) hd.out ?_
  simp only [List.setIfInBounds_toArray, List.set_cons_zero, List.set_cons_succ]
  refine tk (i := 1) (d := 108) (v := (.int .i64 (j : Int))) rfl rfl (Or.inl ⟨by rfl, by intro W hW; clear hW; go_simp⟩) hd.out ?_
  simp only [List.setIfInBounds_toArray, List.set_cons_zero, List.set_cons_succ]
  refine tk (i := 2) (d := 109) (v := (.int .i64 ((j : Int) + 1))) rfl rfl (Or.inl ⟨by rfl, by intro W hW; clear hW; go_simp⟩) hd.out ?_
  simp only [List.setIfInBounds_toArray, List.set_cons_zero, List.set_cons_succ]
  refine tk (i := 4) (d := 111) (v := (vp)) rfl rfl (Or.inl ⟨by rfl, by intro W hW; clear hW; go_simp⟩) hd.out ?_
  simp only [List.setIfInBounds_toArray, List.set_cons_zero, List.set_cons_succ]
  refine tk (i := 5) (d := 112) (v := (.pointer (some ⟨gw, 0, none⟩))) rfl rfl (Or.inl ⟨by rfl, by intro W hW; clear hW; go_simp⟩) hd.out ?_
  simp only [List.setIfInBounds_toArray, List.set_cons_zero, List.set_cons_succ]
  refine tk (i := 6) (d := 113) (v := (.int .i64 (j : Int))) rfl rfl (Or.inl ⟨by rfl, by intro W hW; clear hW; go_simp⟩) hd.out ?_
  simp only [List.setIfInBounds_toArray, List.set_cons_zero, List.set_cons_succ]
  refine tk (i := 7) (d := 114) (v := (.pointer (some ⟨gw, 0, none⟩))) rfl rfl (Or.inl ⟨by rfl, by intro W hW; clear hW; go_simp⟩) hd.out ?_
  simp only [List.setIfInBounds_toArray, List.set_cons_zero, List.set_cons_succ]
  refine tk (i := 8) (d := 115) (v := (.pointer (some ⟨gw, 0, none⟩))) rfl rfl (Or.inl ⟨by rfl, by intro W hW; clear hW; go_simp⟩) hd.out ?_
  simp only [List.setIfInBounds_toArray, List.set_cons_zero, List.set_cons_succ]
  refine tk (i := 9) (d := 116) (v := (.pointer (some ⟨gw, j, none⟩))) rfl rfl (Or.inl ⟨by rfl, by intro W hW; clear hW; go_simp⟩) hd.out ?_
  simp only [List.setIfInBounds_toArray, List.set_cons_zero, List.set_cons_succ]
  refine tk (i := 10) (d := 117) (v := (vj)) rfl rfl (Or.inl ⟨by rfl, by intro W hW; have c0 := hW.p; clear hW; go_simp⟩) hd.out ?_
  simp only [List.setIfInBounds_toArray, List.set_cons_zero, List.set_cons_succ]
  refine tk (i := 12) (d := 119) (v := (.pointer (some ⟨q, 0, none⟩))) rfl rfl (Or.inl ⟨by rfl, by intro W hW; clear hW; go_simp⟩) hd.out ?_
  simp only [List.setIfInBounds_toArray, List.set_cons_zero, List.set_cons_succ]
  refine tk (i := 13) (d := 120) (v := (.pointer (some ⟨gw, 0, none⟩))) rfl rfl (Or.inl ⟨by rfl, by intro W hW; clear hW; go_simp⟩) hd.out ?_
  simp only [List.setIfInBounds_toArray, List.set_cons_zero, List.set_cons_succ]
  refine tk (i := 14) (d := 121) (v := (.int .i64 (j : Int))) rfl rfl (Or.inl ⟨by rfl, by intro W hW; clear hW; go_simp⟩) hd.out ?_
  simp only [List.setIfInBounds_toArray, List.set_cons_zero, List.set_cons_succ]
  refine tk (i := 15) (d := 122) (v := (.pointer (some ⟨gw, 0, none⟩))) rfl rfl (Or.inl ⟨by rfl, by intro W hW; clear hW; go_simp⟩) hd.out ?_
  simp only [List.setIfInBounds_toArray, List.set_cons_zero, List.set_cons_succ]
  refine tk (i := 16) (d := 123) (v := (.pointer (some ⟨gw, 3, none⟩))) rfl rfl (Or.inl ⟨by rfl, by intro W hW; clear hW; go_simp⟩) hd.out ?_
  simp only [List.setIfInBounds_toArray, List.set_cons_zero, List.set_cons_succ]
  refine tk (i := 17) (d := 124) (v := (.pointer (some ⟨gw, 3 + j, none⟩))) rfl rfl (Or.inl ⟨by rfl, by intro W hW; clear hW; go_simp⟩) hd.out ?_
  simp only [List.setIfInBounds_toArray, List.set_cons_zero, List.set_cons_succ]
  refine tk (i := 18) (d := 125) (v := (.pointer (some ⟨qj, 0, none⟩))) rfl rfl (Or.inl ⟨by rfl, by intro W hW; have c0 := hW.r; clear hW; go_simp⟩) hd.out ?_
  simp only [List.setIfInBounds_toArray, List.set_cons_zero, List.set_cons_succ]
  refine wpAnyH_ready (rs := [3]) (by kernel_rfl) (by simp) ?_
  refine AllReadyH.cons rfl (fun K hK => ?_) AllReadyH.nil
  go_simp
  refine (h3c.out _).mono ?_
  rintro e v1 ⟨rfl, rfl⟩
  refine hK.out _ _ hd.out (fun _ => ?_)
  clear hK K
  refine wpAnyH_ready (rs := [11]) (by kernel_rfl) (by simp) ?_
  refine AllReadyH.cons rfl (fun K hK => ?_) AllReadyH.nil
  go_simp
  refine (hU.out _ whd.out).mono ?_
  rintro e vu ⟨so, mo, rfl, hset, qu, l1, l2⟩
  have whdu := Lib.hid (whd.out.keep qu)
  have hdu : Hid (CJ gw j vj qj vu) := Lib.hid (hcS.out P _ rfl whdu.out)
  have hset' := Lib.hid hset
  have hl := Lib.hid (⟨l1, l2⟩ : _ ∧ _)
  have hsz := Lib.hid qu.size
  clear qu l1 l2 hset
  refine hK.out _ _ hdu.out (fun _ => ?_)
  clear hK K
  refine wpAnyH_ready (rs := [19]) (by kernel_rfl) (by simp) ?_
  refine AllReadyH.cons rfl (fun K hK => ?_) AllReadyH.nil
  go_simp
  refine (hV.out _ whdu.out).mono ?_
  rintro e vv ⟨q2, A2, c2, rfl, href, qv, l3⟩
  have whdv := Lib.hid (whdu.out.keep qv)
  have hdv : Hid (CJ gw j vj qj vv) := Lib.hid (hcS.out P _ rfl whdv.out)
  have hset2 := Lib.hid (hset'.out.below qv)
  have hpn : Hid (PlAt w0 T ⟨some (so, mo), KU, q2, A2, c2, KU⟩ vv) := Lib.hid ⟨hset2.out, href, hKr.out, Nat.le_trans whdu.out.bel.size l3, fun r hr => by cases hr; exact ⟨Nat.le_trans whd.out.bel.size hl.out.1, Nat.le_trans whd.out.bel.size hl.out.2⟩, hKT.out, hKT.out⟩
  have hnw := Lib.hid (whd.out.fresh (t := t) hl.out.1 hl.out.2 (Nat.le_trans hsz.out l3))
  clear qv l3 href
  refine hK.out _ _ hdv.out (fun _ => ?_)
  clear hK K
  refine wpAnyH_ready (rs := [20]) (by kernel_rfl) (by simp) ?_
  refine AllReadyH.cons rfl (fun K hK => ?_) AllReadyH.nil
  go_simp
  refine (put_any w0 _ T gw P Ak ck L whdv.out t ht3'.out so mo KU q2 A2 c2 KU hpn.out hnw.out).mono ?_
  rintro e vp2 ⟨rfl, hW9⟩
  have whdp := Lib.hid hW9
  have hdp : Hid (CJ gw j vj qj vp2) := Lib.hid (hcS.out _ _ (upP_other P _ htj'.out) hW9)
  clear hW9
  refine hK.out _ _ hdp.out (fun _ => ?_)
  clear hK K
  refine tk (i := 21) (d := 4) (v := (.bool true)) rfl rfl (Or.inl ⟨by rfl, by intro W hW; clear hW; go_simp⟩) hdp.out ?_
  simp only [List.setIfInBounds_toArray, List.set_cons_zero, List.set_cons_succ]
  refine wpAnyH_done (by kernel_rfl) ?_ _
  have hf := Lib.hid (hfin.out _ _ (hE'.out.up t _ rfl) whdp.out)
  go_wp2_with fail
  exact hf.out
end Go.Proofs.Ytlolnpilpdkbkaa
