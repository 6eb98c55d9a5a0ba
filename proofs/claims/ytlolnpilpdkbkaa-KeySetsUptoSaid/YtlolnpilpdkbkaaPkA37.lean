/- KeySets: changes, kind 10. (Printed by tools/genac.py.) KeySets: changes, kind 14. (Printed by tools/genac.py.) KeySets: changes, kind E. (Printed by tools/genac.py.) KeySets: changes. -/
import Derived.Test.YtlolnpilpdkbkaaPkA34
import Derived.Test.YtlolnpilpdkbkaaPkA35
import Derived.Test.YtlolnpilpdkbkaaPkA36

namespace Go.Proofs.Ytlolnpilpdkbkaa
open Go.RowKit Go.Maps
set_option linter.unusedSimpArgs false
set_option linter.unusedVariables false

set_option maxRecDepth 100000 in
set_option maxHeartbeats 4000000 in
theorem chg10 (w0 w : World) (T : List (List Nat)) (hT : T.length ≤ 1048576) (gw : Nat) (P : Nat → Pl) (Ak : Option Addr) (ck : Nat) (L : List Kp) (h : WS w0 T gw P Ak ck L w) (hE : Eqs P) (s : St) (hs : StOk w0 T s)
    (hk : s.kind = 10) :
    Calls Try.prog 24 #[.pointer (some ⟨gw, 0, none⟩), .agg (stepL s).toArray] w (ChgP w0 T gw Ak ck L) := by
  obtain ⟨gs, hgs⟩ : ∃ gs, w.heap.size = gs := ⟨_, rfl⟩
  obtain ⟨w1, hw1⟩ : ∃ w1, w.alloc (.cells (stepL s).toArray 60) = w1 := ⟨_, rfl⟩
  have hB : Below w.heap.size w w1 := by rw [← hw1]; exact (Below.refl _ _).alloc (Nat.le_refl _) _
  have hW1 := Lib.hid (h.keep hB)
  have hS1 : Hid (SB gs s w1) := Lib.hid (by rw [← hw1, ← hgs]; exact heap_alloc_new w _)
  obtain ⟨i, hi⟩ : ∃ i, th s.on = i := ⟨_, rfl⟩
  have hi3 : i < 3 := by rw [← hi]; exact th_lt _
  obtain ⟨j, hj⟩ : ∃ j, th s.wi = j := ⟨_, rfl⟩
  have hj3 : j < 3 := by rw [← hj]; exact th_lt _
  have h3a : Hid (∀ (W : World), Calls Try.prog 39 #[.int .i64 s.on] W fun e w' => e = .returned (.int .i64 (i : Int)) ∧ W = w') := Lib.hid (fun W => (three_any W s.on).mono fun e w' ⟨a, b⟩ => ⟨by rw [← hi]; exact a, b.symm⟩)
  have h3b : Hid (∀ (W : World), Calls Try.prog 39 #[.int .i64 s.wi] W fun e w' => e = .returned (.int .i64 (j : Int)) ∧ W = w') := Lib.hid (fun W => (three_any W s.wi).mono fun e w' ⟨a, b⟩ => ⟨by rw [← hj]; exact a, b.symm⟩)
  have hi3' := Lib.hid hi3
  have hj3' := Lib.hid hj3
  have hi3i : (i : Int) < 3 := by omega
  have hj3i : (j : Int) < 3 := by omega
  obtain ⟨p, hp⟩ : ∃ p, P i = p := ⟨_, rfl⟩
  have hp' := Lib.hid hp
  have hE' := Lib.hid hE
  have hEi : Hid (p.kp = p.kr) := Lib.hid (by rw [← hp]; exact hE i hi3)
  obtain ⟨Q, hQ⟩ : ∃ Q, ChgP w0 T gw Ak ck L = Q := ⟨_, rfl⟩
  have hfin : Hid (∀ P' W, Eqs P' → WS w0 T gw P' Ak ck L W → Q (.returned (.bool true)) W) := Lib.hid fun P' W he hW => by rw [← hQ]; exact ⟨rfl, P', he, hW⟩
  rw [hQ]
  have hs' := Lib.hid hs
  have hT' := Lib.hid hT
  obtain ⟨vs, hvs⟩ : ∃ vs, (stepL s).toArray = vs := ⟨_, rfl⟩
  rw [hvs] at hw1 ⊢
  have c0 := hS1.out.c0
  have c1 := hS1.out.c1
  have c2 := hS1.out.c2
  have d0 := hW1.out.cp hi3
  have d1 := hW1.out.cr hi3
  rw [hp] at d0 d1
  obtain ⟨vp, hvp⟩ : ∃ vp, pv p.o = vp := ⟨_, rfl⟩
  obtain ⟨q, hq⟩ : ∃ q, p.q = q := ⟨_, rfl⟩
  rw [hvp] at d0
  rw [hq] at d1
  have hvp' := Lib.hid hvp
  have hq' := Lib.hid hq
  have hi32 : Hid ((Try.prog.info? 25).map (·.size) = some 32) := Lib.hid (by kernel_rfl)
  have hzk := zeroKy
  have hkl : Hid (s.key.length = 32) := Lib.hid hs.key.1
  have hks : Hid ((u8s s.key).length = 32) := Lib.hid (by simp [u8s, hs.key.1])
  have hpl : Hid (∀ W, WS w0 T gw P Ak ck L W → PlAt w0 T p W) := Lib.hid fun W hW => by rw [← hp]; exact hW.pl i hi3
  obtain ⟨pj, hpj⟩ : ∃ pj, P j = pj := ⟨_, rfl⟩
  have hEj : Hid (pj.kp = pj.kr) := Lib.hid (by rw [← hpj]; exact hE j hj3)
  have hplj : Hid (∀ W, WS w0 T gw P Ak ck L W → PlAt w0 T pj W) := Lib.hid fun W hW => by rw [← hpj]; exact hW.pl j hj3
  obtain ⟨vj, hvj⟩ : ∃ vj, pv pj.o = vj := ⟨_, rfl⟩
  obtain ⟨qj, hqj⟩ : ∃ qj, pj.q = qj := ⟨_, rfl⟩
  obtain ⟨KU, hKU⟩ : ∃ KU, takeK (minusT p.kr pj.kr) pj.kr (takeK (minusT p.kr pj.kr) p.kr []) = KU := ⟨_, rfl⟩
  have hr1 := (hpl.out _ hW1.out).rise
  have hr2 := (hplj.out _ hW1.out).rise
  have hKr : Hid (Rise32 KU) := Lib.hid (by rw [← hKU]; exact takeK_rise hr2.ok (takeK_rise hr1.ok Rise32.nil))
  have hKT : Hid (∀ x ∈ KU, x ∈ T) := Lib.hid fun x hx => by
    rw [← hKU] at hx
    rcases mem_takeK.1 hx with h | h
    · exact (hplj.out _ hW1.out).inR x h.1
    · rcases mem_takeK.1 h with h | h
      · exact (hpl.out _ hW1.out).inR x h.1
      · simp at h
  have hU : Hid (∀ W, WS w0 T gw P Ak ck L W → Calls Try.prog 13 #[vp, vj] W fun e w' => ∃ so mo, e = .returned (.pointer (some ⟨so, 0, none⟩)) ∧ SetO w' (some (so, mo)) KU ∧ Below W.heap.size W w' ∧ W.heap.size ≤ so ∧ W.heap.size ≤ mo) := Lib.hid fun W hW => by
    have h1 := hpl.out W hW
    have h2 := hplj.out W hW
    have := minusO_any W p.o pj.o p.kp pj.kp h1.set h2.set (by have := h1.lenP; have := hT'.out; omega) (by have := h2.lenP; have := hT'.out; omega)
    rw [hvp, hvj, hEi.out, hEj.out, hKU] at this
    exact this.mono fun e w' ⟨so, mo, N, a1, a2, a3, a4, a5, _⟩ => ⟨so, mo, a1, ⟨N, a2⟩, a3, a4, a5⟩
  have hV : Hid (∀ W, WS w0 T gw P Ak ck L W → Calls Try.prog 51 #[.pointer (some ⟨q, 0, none⟩), .pointer (some ⟨qj, 0, none⟩)] W (RNewP W KU)) := Lib.hid fun W hW => by
    have h1 := hpl.out W hW
    have h2 := hplj.out W hW
    have := rMinus_any W p.q p.c p.A p.kr h1.ref h1.rise pj.q pj.c pj.A pj.kr h2.ref h2.rise (by have := h1.lenR; have := hT'.out; omega) (by have := h2.lenR; have := hT'.out; omega)
    rw [← minus_eq h1.rise h2.rise, hq, hqj, hKU] at this
    exact this
  obtain ⟨t, ht⟩ : ∃ t, th ((j : Int) + 1) = t := ⟨_, rfl⟩
  have ht3 : t < 3 := by rw [← ht]; exact (th_succ hj3).1
  have htj : j ≠ t := by rw [← ht]; exact (th_succ hj3).2
  have ht3' := Lib.hid ht3
  have htj' := Lib.hid htj
  have h3c : Hid (∀ (W : World), Calls Try.prog 39 #[.int .i64 ((j : Int) + 1)] W fun e w' => e = .returned (.int .i64 (t : Int)) ∧ W = w') := Lib.hid (fun W => (three_any W _).mono fun e w' ⟨a, b⟩ => ⟨by rw [← ht]; exact a, b.symm⟩)
  have hcS : Hid (∀ P' W, P' j = P j → WS w0 T gw P' Ak ck L W → CJ gw j vj qj W) := Lib.hid fun P' W e hW => by
    have a := hW.cp hj3
    have b := hW.cr hj3
    rw [e, hpj, hvj] at a
    rw [e, hpj, hqj] at b
    exact ⟨a, b⟩
  have hjw : IntKind.i64.wrap ((j : Int) + 1) = (j : Int) + 1 := by rw [IntKind.wrap_i64]; omega
  have hjw2 : wrap64 ((j : Int) + 1) = (j : Int) + 1 := by unfold wrap64; omega
  clear hpj hvj hqj hKU hr1 hr2 ht ht3 htj
  clear h hE hs hT hQ hB hvs hi3 hj3 hi hj hp hvp hq
  go_enter Try.func24, Try.ntmps24
  go_wp2_with fail
  go_quiet ((go_at_call 39; first | exact quiet_l (fun W => h3a.out W) | exact quiet_l (fun W => h3b.out W)))
  have hWa := Lib.hid (hW1.out.keep (below_drewN (Below.refl _ _) nq))
  have hSa := Lib.hid (hS1.out.below (below_drewN (Below.refl _ _) nq))
  clear hW1 hS1 c0 c1 c2 d0 d1
  generalize w1.drewN nq = wa at hWa hSa ⊢
  have d0 := hWa.out.cp hi3'.out
  have d1 := hWa.out.cr hi3'.out
  rw [hp'.out] at d0 d1
  rw [hvp'.out] at d0
  rw [hq'.out] at d1
  go_wp2_with fail
  go_quiet (fail)
  have hW2 := Lib.hid (hWa.out.keep (below_drewN (Below.refl _ _) nq))
  have hS2 := Lib.hid (hSa.out.below (below_drewN (Below.refl _ _) nq))
  clear hWa hSa d0 d1
  generalize wa.drewN nq = w2 at hW2 hS2 ⊢
  have c0 := hS2.out.c0
  rw [hk] at c0
  go_wp2_with fail
  have whd : Hid (WS _ _ _ _ _ _ _ w2.drew) := Lib.hid (hW2.out.keep (below_drewN (Below.refl _ _) 1))
  have hd : Hid (CJ gw j vj qj w2.drew) := Lib.hid (hcS.out P _ rfl whd.out)
  refine wp_region_held (S := CJ gw j vj qj) (by kernel_rfl) ?_
  change wpAnyH _ _ _ _ _ _ _ _ (World.drew _)
  refine tk (i := 0) (d := 130) (v := (.pointer (some ⟨gw, 0, none⟩))) rfl rfl (Or.inl ⟨by rfl, by intro W hW; clear hW; go_simp⟩) hd.out ?_
  simp only [List.setIfInBounds_toArray, List.set_cons_zero, List.set_cons_succ]
  refine tk (i := 1) (d := 131) (v := (.int .i64 (j : Int))) rfl rfl (Or.inl ⟨by rfl, by intro W hW; clear hW; go_simp⟩) hd.out ?_
  simp only [List.setIfInBounds_toArray, List.set_cons_zero, List.set_cons_succ]
  refine tk (i := 2) (d := 132) (v := (.int .i64 ((j : Int) + 1))) rfl rfl (Or.inl ⟨by rfl, by intro W hW; clear hW; go_simp⟩) hd.out ?_
  simp only [List.setIfInBounds_toArray, List.set_cons_zero, List.set_cons_succ]
  refine tk (i := 4) (d := 134) (v := (vp)) rfl rfl (Or.inl ⟨by rfl, by intro W hW; clear hW; go_simp⟩) hd.out ?_
  simp only [List.setIfInBounds_toArray, List.set_cons_zero, List.set_cons_succ]
  refine tk (i := 5) (d := 135) (v := (.pointer (some ⟨gw, 0, none⟩))) rfl rfl (Or.inl ⟨by rfl, by intro W hW; clear hW; go_simp⟩) hd.out ?_
  simp only [List.setIfInBounds_toArray, List.set_cons_zero, List.set_cons_succ]
  refine tk (i := 6) (d := 136) (v := (.int .i64 (j : Int))) rfl rfl (Or.inl ⟨by rfl, by intro W hW; clear hW; go_simp⟩) hd.out ?_
  simp only [List.setIfInBounds_toArray, List.set_cons_zero, List.set_cons_succ]
  refine tk (i := 7) (d := 137) (v := (.pointer (some ⟨gw, 0, none⟩))) rfl rfl (Or.inl ⟨by rfl, by intro W hW; clear hW; go_simp⟩) hd.out ?_
  simp only [List.setIfInBounds_toArray, List.set_cons_zero, List.set_cons_succ]
  refine tk (i := 8) (d := 138) (v := (.pointer (some ⟨gw, 0, none⟩))) rfl rfl (Or.inl ⟨by rfl, by intro W hW; clear hW; go_simp⟩) hd.out ?_
  simp only [List.setIfInBounds_toArray, List.set_cons_zero, List.set_cons_succ]
  refine tk (i := 9) (d := 139) (v := (.pointer (some ⟨gw, j, none⟩))) rfl rfl (Or.inl ⟨by rfl, by intro W hW; clear hW; go_simp⟩) hd.out ?_
  simp only [List.setIfInBounds_toArray, List.set_cons_zero, List.set_cons_succ]
  refine tk (i := 10) (d := 140) (v := (vj)) rfl rfl (Or.inl ⟨by rfl, by intro W hW; have c0 := hW.p; clear hW; go_simp⟩) hd.out ?_
  simp only [List.setIfInBounds_toArray, List.set_cons_zero, List.set_cons_succ]
  refine tk (i := 12) (d := 142) (v := (.pointer (some ⟨q, 0, none⟩))) rfl rfl (Or.inl ⟨by rfl, by intro W hW; clear hW; go_simp⟩) hd.out ?_
  simp only [List.setIfInBounds_toArray, List.set_cons_zero, List.set_cons_succ]
  refine tk (i := 13) (d := 143) (v := (.pointer (some ⟨gw, 0, none⟩))) rfl rfl (Or.inl ⟨by rfl, by intro W hW; clear hW; go_simp⟩) hd.out ?_
  simp only [List.setIfInBounds_toArray, List.set_cons_zero, List.set_cons_succ]
  refine tk (i := 14) (d := 144) (v := (.int .i64 (j : Int))) rfl rfl (Or.inl ⟨by rfl, by intro W hW; clear hW; go_simp⟩) hd.out ?_
  simp only [List.setIfInBounds_toArray, List.set_cons_zero, List.set_cons_succ]
  refine tk (i := 15) (d := 145) (v := (.pointer (some ⟨gw, 0, none⟩))) rfl rfl (Or.inl ⟨by rfl, by intro W hW; clear hW; go_simp⟩) hd.out ?_
  simp only [List.setIfInBounds_toArray, List.set_cons_zero, List.set_cons_succ]
  refine tk (i := 16) (d := 146) (v := (.pointer (some ⟨gw, 3, none⟩))) rfl rfl (Or.inl ⟨by rfl, by intro W hW; clear hW; go_simp⟩) hd.out ?_
  simp only [List.setIfInBounds_toArray, List.set_cons_zero, List.set_cons_succ]
  refine tk (i := 17) (d := 147) (v := (.pointer (some ⟨gw, 3 + j, none⟩))) rfl rfl (Or.inl ⟨by rfl, by intro W hW; clear hW; go_simp⟩) hd.out ?_
  simp only [List.setIfInBounds_toArray, List.set_cons_zero, List.set_cons_succ]
  refine tk (i := 18) (d := 148) (v := (.pointer (some ⟨qj, 0, none⟩))) rfl rfl (Or.inl ⟨by rfl, by intro W hW; have c0 := hW.r; clear hW; go_simp⟩) hd.out ?_
  simp only [List.setIfInBounds_toArray, List.set_cons_zero, List.set_cons_succ]
  refine wpAnyH_ready (rs := [3]) (by kernel_rfl) (by simp) ?_
  refine AllReadyH.cons rfl (fun K hK => ?_) AllReadyH.nil
  go_simp
  refine (h3c.out _).mono ?_
  rintro e v1 ⟨rfl, rfl⟩
  refine hK.out _ _ hd.out (fun _ => ?_)
  clear hK K
  refine wpAnyH_ready (rs := [11]) (by kernel_rfl) (by simp) ?_
  refine AllReadyH.cons rfl (fun K hK => ?_) AllReadyH.nil
  go_simp
  refine (hU.out _ whd.out).mono ?_
  rintro e vu ⟨so, mo, rfl, hset, qu, l1, l2⟩
  have whdu := Lib.hid (whd.out.keep qu)
  have hdu : Hid (CJ gw j vj qj vu) := Lib.hid (hcS.out P _ rfl whdu.out)
  have hset' := Lib.hid hset
  have hl := Lib.hid (⟨l1, l2⟩ : _ ∧ _)
  have hsz := Lib.hid qu.size
  clear qu l1 l2 hset
  refine hK.out _ _ hdu.out (fun _ => ?_)
  clear hK K
  refine wpAnyH_ready (rs := [19]) (by kernel_rfl) (by simp) ?_
  refine AllReadyH.cons rfl (fun K hK => ?_) AllReadyH.nil
  go_simp
  refine (hV.out _ whdu.out).mono ?_
  rintro e vv ⟨q2, A2, c2, rfl, href, qv, l3⟩
  have whdv := Lib.hid (whdu.out.keep qv)
  have hdv : Hid (CJ gw j vj qj vv) := Lib.hid (hcS.out P _ rfl whdv.out)
  have hset2 := Lib.hid (hset'.out.below qv)
  have hpn : Hid (PlAt w0 T ⟨some (so, mo), KU, q2, A2, c2, KU⟩ vv) := Lib.hid ⟨hset2.out, href, hKr.out, Nat.le_trans whdu.out.bel.size l3, fun r hr => by cases hr; exact ⟨Nat.le_trans whd.out.bel.size hl.out.1, Nat.le_trans whd.out.bel.size hl.out.2⟩, hKT.out, hKT.out⟩
  have hnw := Lib.hid (whd.out.fresh (t := t) hl.out.1 hl.out.2 (Nat.le_trans hsz.out l3))
  clear qv l3 href
  refine hK.out _ _ hdv.out (fun _ => ?_)
  clear hK K
  refine wpAnyH_ready (rs := [20]) (by kernel_rfl) (by simp) ?_
  refine AllReadyH.cons rfl (fun K hK => ?_) AllReadyH.nil
  go_simp
  refine (put_any w0 _ T gw P Ak ck L whdv.out t ht3'.out so mo KU q2 A2 c2 KU hpn.out hnw.out).mono ?_
  rintro e vp2 ⟨rfl, hW9⟩
  have whdp := Lib.hid hW9
  have hdp : Hid (CJ gw j vj qj vp2) := Lib.hid (hcS.out _ _ (upP_other P _ htj'.out) hW9)
  clear hW9
  refine hK.out _ _ hdp.out (fun _ => ?_)
  clear hK K
  refine tk (i := 21) (d := 4) (v := (.bool true)) rfl rfl (Or.inl ⟨by rfl, by intro W hW; clear hW; go_simp⟩) hdp.out ?_
  simp only [List.setIfInBounds_toArray, List.set_cons_zero, List.set_cons_succ]
  refine wpAnyH_done (by kernel_rfl) ?_ _
  have hf := Lib.hid (hfin.out _ _ (hE'.out.up t _ rfl) whdp.out)
  go_wp2_with fail
  exact hf.out
end Go.Proofs.Ytlolnpilpdkbkaa

namespace Go.Proofs.Ytlolnpilpdkbkaa
open Go.RowKit Go.Maps
set_option linter.unusedSimpArgs false
set_option linter.unusedVariables false

set_option maxRecDepth 100000 in
set_option maxHeartbeats 4000000 in
theorem chg14 (w0 w : World) (T : List (List Nat)) (hT : T.length ≤ 1048576) (gw : Nat) (P : Nat → Pl) (Ak : Option Addr) (ck : Nat) (L : List Kp) (h : WS w0 T gw P Ak ck L w) (hE : Eqs P) (s : St) (hs : StOk w0 T s)
    (hk : s.kind = 14) :
    Calls Try.prog 24 #[.pointer (some ⟨gw, 0, none⟩), .agg (stepL s).toArray] w (ChgP w0 T gw Ak ck L) := by
  obtain ⟨gs, hgs⟩ : ∃ gs, w.heap.size = gs := ⟨_, rfl⟩
  obtain ⟨w1, hw1⟩ : ∃ w1, w.alloc (.cells (stepL s).toArray 60) = w1 := ⟨_, rfl⟩
  have hB : Below w.heap.size w w1 := by rw [← hw1]; exact (Below.refl _ _).alloc (Nat.le_refl _) _
  have hW1 := Lib.hid (h.keep hB)
  have hS1 : Hid (SB gs s w1) := Lib.hid (by rw [← hw1, ← hgs]; exact heap_alloc_new w _)
  obtain ⟨i, hi⟩ : ∃ i, th s.on = i := ⟨_, rfl⟩
  have hi3 : i < 3 := by rw [← hi]; exact th_lt _
  obtain ⟨j, hj⟩ : ∃ j, th s.wi = j := ⟨_, rfl⟩
  have hj3 : j < 3 := by rw [← hj]; exact th_lt _
  have h3a : Hid (∀ (W : World), Calls Try.prog 39 #[.int .i64 s.on] W fun e w' => e = .returned (.int .i64 (i : Int)) ∧ W = w') := Lib.hid (fun W => (three_any W s.on).mono fun e w' ⟨a, b⟩ => ⟨by rw [← hi]; exact a, b.symm⟩)
  have h3b : Hid (∀ (W : World), Calls Try.prog 39 #[.int .i64 s.wi] W fun e w' => e = .returned (.int .i64 (j : Int)) ∧ W = w') := Lib.hid (fun W => (three_any W s.wi).mono fun e w' ⟨a, b⟩ => ⟨by rw [← hj]; exact a, b.symm⟩)
  have hi3' := Lib.hid hi3
  have hj3' := Lib.hid hj3
  have hi3i : (i : Int) < 3 := by omega
  have hj3i : (j : Int) < 3 := by omega
  obtain ⟨p, hp⟩ : ∃ p, P i = p := ⟨_, rfl⟩
  have hp' := Lib.hid hp
  have hE' := Lib.hid hE
  have hEi : Hid (p.kp = p.kr) := Lib.hid (by rw [← hp]; exact hE i hi3)
  obtain ⟨Q, hQ⟩ : ∃ Q, ChgP w0 T gw Ak ck L = Q := ⟨_, rfl⟩
  have hfin : Hid (∀ P' W, Eqs P' → WS w0 T gw P' Ak ck L W → Q (.returned (.bool true)) W) := Lib.hid fun P' W he hW => by rw [← hQ]; exact ⟨rfl, P', he, hW⟩
  rw [hQ]
  have hs' := Lib.hid hs
  have hT' := Lib.hid hT
  obtain ⟨vs, hvs⟩ : ∃ vs, (stepL s).toArray = vs := ⟨_, rfl⟩
  rw [hvs] at hw1 ⊢
  have c0 := hS1.out.c0
  have c1 := hS1.out.c1
  have c2 := hS1.out.c2
  have d0 := hW1.out.cp hi3
  have d1 := hW1.out.cr hi3
  rw [hp] at d0 d1
  obtain ⟨vp, hvp⟩ : ∃ vp, pv p.o = vp := ⟨_, rfl⟩
  obtain ⟨q, hq⟩ : ∃ q, p.q = q := ⟨_, rfl⟩
  rw [hvp] at d0
  rw [hq] at d1
  have hvp' := Lib.hid hvp
  have hq' := Lib.hid hq
  have hi32 : Hid ((Try.prog.info? 25).map (·.size) = some 32) := Lib.hid (by kernel_rfl)
  have hzk := zeroKy
  have hkl : Hid (s.key.length = 32) := Lib.hid hs.key.1
  have hks : Hid ((u8s s.key).length = 32) := Lib.hid (by simp [u8s, hs.key.1])
  have hpl : Hid (∀ W, WS w0 T gw P Ak ck L W → PlAt w0 T p W) := Lib.hid fun W hW => by rw [← hp]; exact hW.pl i hi3
  have hRn : Hid (∀ W, Calls Try.prog 22 #[.slice none 0 0] W (RNewP W [])) := Lib.hid fun W => rNew_any W none [] 0 0 rfl (by omega) (KeyRow.nil _ _)
  have hend : Hid (∀ W W5 q2 A2 c2, WS w0 T gw P Ak ck L W → RSet W5 q2 A2 c2 [] → Below W.heap.size W W5 → W.heap.size ≤ q2 → ∀ W', Upd (fun k => k = gw) W5 W' → W'.heap[gw]? = some (.cells ((((wcells P Ak L.length ck).toArray.setIfInBounds i (.pointer none)).setIfInBounds (3 + i) (.pointer (some ⟨q2, 0, none⟩))).setIfInBounds (6 + i) (.bool true)) 55 (0, 0)) → Q (.returned (.bool true)) W') := Lib.hid fun W W5 q2 A2 c2 hW hr5 b5 l5 W' hu hc => by
    have hW5 := hW.keep b5
    have hp5 : PlAt w0 T ⟨none, [], q2, A2, c2, []⟩ W5 := ⟨rfl, hr5, Rise32.nil, Nat.le_trans hW.bel.size l5, fun r hr => (by cases hr), by simp, by simp⟩
    refine hfin.out (upP P i ⟨none, [], q2, A2, c2, []⟩) W' (hE'.out.up i _ rfl) (hW5.put hi3 _ hp5 (fun j hj hji => ⟨?_, fun r s _ hs => by cases hs⟩) hu ?_)
    · have := (hW.pl j hj).ref.lts.1
      show (P j).q ≠ q2
      omega
    · rw [hc]
      rcases (show i = 0 ∨ i = 1 ∨ i = 2 by omega) with rfl | rfl | rfl <;> rfl
  clear h hE hs hT hQ hB hvs hi3 hj3 hi hj hp hvp hq
  go_enter Try.func24, Try.ntmps24
  go_wp2_with fail
  go_quiet ((go_at_call 39; first | exact quiet_l (fun W => h3a.out W) | exact quiet_l (fun W => h3b.out W)))
  have hWa := Lib.hid (hW1.out.keep (below_drewN (Below.refl _ _) nq))
  have hSa := Lib.hid (hS1.out.below (below_drewN (Below.refl _ _) nq))
  clear hW1 hS1 c0 c1 c2 d0 d1
  generalize w1.drewN nq = wa at hWa hSa ⊢
  have d0 := hWa.out.cp hi3'.out
  have d1 := hWa.out.cr hi3'.out
  rw [hp'.out] at d0 d1
  rw [hvp'.out] at d0
  rw [hq'.out] at d1
  go_wp2_with fail
  go_quiet (fail)
  have hW2 := Lib.hid (hWa.out.keep (below_drewN (Below.refl _ _) nq))
  have hS2 := Lib.hid (hSa.out.below (below_drewN (Below.refl _ _) nq))
  clear hWa hSa d0 d1
  generalize wa.drewN nq = w2 at hW2 hS2 ⊢
  have c0 := hS2.out.c0
  rw [hk] at c0
  rcases (show i = 0 ∨ i = 1 ∨ i = 2 by have := hi3'.out; omega) with rfl | rfl | rfl
  · go_wp2_with fail
    go_region_with ((go_at_call 22; refine (hRn.out _).mono ?_; rintro e w5 ⟨q2, A2, c2, rfl, href, b5, l5⟩
                     have b6 : Below w2.heap.size w2 w5 := (show Below w2.heap.size w2 w2.drew from below_drewN (Below.refl _ _) 1).trans b5
                     have hW5 := hW2.out.keep b6
                     have a0 : w5.cell? ⟨gw, 0, none⟩ = _ := hW5.cell (k := 0) rfl
                     have a1 : w5.cell? ⟨gw, 3, none⟩ = _ := hW5.cell (k := 3) rfl
                     have a2 : w5.cell? ⟨gw, 6, none⟩ = _ := hW5.cell (k := 6) rfl
                     have f0 := hW5.fz
                     have hwl := Lib.hid hW5.wld
                     have href' := Lib.hid href
                     have b5' : Hid (Below w2.heap.size w2 w5) := Lib.hid b6
                     have l5' : Hid (w2.heap.size ≤ q2) := Lib.hid l5
                     clear href b5 b6 l5 hW5 hRn))
    have hu : Upd (fun k => k = gw) w5 (((w5.setCell ⟨gw, 0, none⟩ (.pointer none)).setCell ⟨gw, 3, none⟩ (.pointer (some ⟨q2, 0, none⟩))).setCell ⟨gw, 6, none⟩ (.bool true)) := (((Upd.refl _ w5).trans (Upd.set (F := fun k => k = gw) _ (p := ⟨gw, 0, none⟩) rfl _)).trans (Upd.set (F := fun k => k = gw) _ (p := ⟨gw, 3, none⟩) rfl _)).trans (Upd.set (F := fun k => k = gw) _ (p := ⟨gw, 6, none⟩) rfl _)
    have hf := Lib.hid (hend.out w2 w5 q2 A2 c2 hW2.out href'.out b5'.out l5'.out _ hu (heap_setCell_same _ gw 6 _ _ (.bool true) (heap_setCell_same _ gw 3 _ _ (.pointer (some ⟨q2, 0, none⟩)) (heap_setCell_same w5 gw 0 _ _ (.pointer none) hwl.out))))
    clear hu
    go_wp2_with fail
    exact hf.out
  · go_wp2_with fail
    go_region_with ((go_at_call 22; refine (hRn.out _).mono ?_; rintro e w5 ⟨q2, A2, c2, rfl, href, b5, l5⟩
                     have b6 : Below w2.heap.size w2 w5 := (show Below w2.heap.size w2 w2.drew from below_drewN (Below.refl _ _) 1).trans b5
                     have hW5 := hW2.out.keep b6
                     have a0 : w5.cell? ⟨gw, 1, none⟩ = _ := hW5.cell (k := 1) rfl
                     have a1 : w5.cell? ⟨gw, 4, none⟩ = _ := hW5.cell (k := 4) rfl
                     have a2 : w5.cell? ⟨gw, 7, none⟩ = _ := hW5.cell (k := 7) rfl
                     have f0 := hW5.fz
                     have hwl := Lib.hid hW5.wld
                     have href' := Lib.hid href
                     have b5' : Hid (Below w2.heap.size w2 w5) := Lib.hid b6
                     have l5' : Hid (w2.heap.size ≤ q2) := Lib.hid l5
                     clear href b5 b6 l5 hW5 hRn))
    have hu : Upd (fun k => k = gw) w5 (((w5.setCell ⟨gw, 1, none⟩ (.pointer none)).setCell ⟨gw, 4, none⟩ (.pointer (some ⟨q2, 0, none⟩))).setCell ⟨gw, 7, none⟩ (.bool true)) := (((Upd.refl _ w5).trans (Upd.set (F := fun k => k = gw) _ (p := ⟨gw, 1, none⟩) rfl _)).trans (Upd.set (F := fun k => k = gw) _ (p := ⟨gw, 4, none⟩) rfl _)).trans (Upd.set (F := fun k => k = gw) _ (p := ⟨gw, 7, none⟩) rfl _)
    have hf := Lib.hid (hend.out w2 w5 q2 A2 c2 hW2.out href'.out b5'.out l5'.out _ hu (heap_setCell_same _ gw 7 _ _ (.bool true) (heap_setCell_same _ gw 4 _ _ (.pointer (some ⟨q2, 0, none⟩)) (heap_setCell_same w5 gw 1 _ _ (.pointer none) hwl.out))))
    clear hu
    go_wp2_with fail
    exact hf.out
  · go_wp2_with fail
    go_region_with ((go_at_call 22; refine (hRn.out _).mono ?_; rintro e w5 ⟨q2, A2, c2, rfl, href, b5, l5⟩
                     have b6 : Below w2.heap.size w2 w5 := (show Below w2.heap.size w2 w2.drew from below_drewN (Below.refl _ _) 1).trans b5
                     have hW5 := hW2.out.keep b6
                     have a0 : w5.cell? ⟨gw, 2, none⟩ = _ := hW5.cell (k := 2) rfl
                     have a1 : w5.cell? ⟨gw, 5, none⟩ = _ := hW5.cell (k := 5) rfl
                     have a2 : w5.cell? ⟨gw, 8, none⟩ = _ := hW5.cell (k := 8) rfl
                     have f0 := hW5.fz
                     have hwl := Lib.hid hW5.wld
                     have href' := Lib.hid href
                     have b5' : Hid (Below w2.heap.size w2 w5) := Lib.hid b6
                     have l5' : Hid (w2.heap.size ≤ q2) := Lib.hid l5
                     clear href b5 b6 l5 hW5 hRn))
    have hu : Upd (fun k => k = gw) w5 (((w5.setCell ⟨gw, 2, none⟩ (.pointer none)).setCell ⟨gw, 5, none⟩ (.pointer (some ⟨q2, 0, none⟩))).setCell ⟨gw, 8, none⟩ (.bool true)) := (((Upd.refl _ w5).trans (Upd.set (F := fun k => k = gw) _ (p := ⟨gw, 2, none⟩) rfl _)).trans (Upd.set (F := fun k => k = gw) _ (p := ⟨gw, 5, none⟩) rfl _)).trans (Upd.set (F := fun k => k = gw) _ (p := ⟨gw, 8, none⟩) rfl _)
    have hf := Lib.hid (hend.out w2 w5 q2 A2 c2 hW2.out href'.out b5'.out l5'.out _ hu (heap_setCell_same _ gw 8 _ _ (.bool true) (heap_setCell_same _ gw 5 _ _ (.pointer (some ⟨q2, 0, none⟩)) (heap_setCell_same w5 gw 2 _ _ (.pointer none) hwl.out))))
    clear hu
    go_wp2_with fail
    exact hf.out
end Go.Proofs.Ytlolnpilpdkbkaa

namespace Go.Proofs.Ytlolnpilpdkbkaa
open Go.RowKit Go.Maps
set_option linter.unusedSimpArgs false
set_option linter.unusedVariables false

set_option maxRecDepth 100000 in
set_option maxHeartbeats 4000000 in
theorem chgE (w0 w : World) (T : List (List Nat)) (hT : T.length ≤ 1048576) (gw : Nat) (P : Nat → Pl) (Ak : Option Addr) (ck : Nat) (L : List Kp) (h : WS w0 T gw P Ak ck L w) (hE : Eqs P) (s : St) (hs : StOk w0 T s)
    (hk : s.kind ≠ 1 ∧ s.kind ≠ 2 ∧ s.kind ≠ 4 ∧ s.kind ≠ 8 ∧ s.kind ≠ 9 ∧ s.kind ≠ 10 ∧ s.kind ≠ 14) :
    Calls Try.prog 24 #[.pointer (some ⟨gw, 0, none⟩), .agg (stepL s).toArray] w (ChgP w0 T gw Ak ck L) := by
  obtain ⟨gs, hgs⟩ : ∃ gs, w.heap.size = gs := ⟨_, rfl⟩
  obtain ⟨w1, hw1⟩ : ∃ w1, w.alloc (.cells (stepL s).toArray 60) = w1 := ⟨_, rfl⟩
  have hB : Below w.heap.size w w1 := by rw [← hw1]; exact (Below.refl _ _).alloc (Nat.le_refl _) _
  have hW1 := Lib.hid (h.keep hB)
  have hS1 : Hid (SB gs s w1) := Lib.hid (by rw [← hw1, ← hgs]; exact heap_alloc_new w _)
  obtain ⟨i, hi⟩ : ∃ i, th s.on = i := ⟨_, rfl⟩
  have hi3 : i < 3 := by rw [← hi]; exact th_lt _
  obtain ⟨j, hj⟩ : ∃ j, th s.wi = j := ⟨_, rfl⟩
  have hj3 : j < 3 := by rw [← hj]; exact th_lt _
  have h3a : Hid (∀ (W : World), Calls Try.prog 39 #[.int .i64 s.on] W fun e w' => e = .returned (.int .i64 (i : Int)) ∧ W = w') := Lib.hid (fun W => (three_any W s.on).mono fun e w' ⟨a, b⟩ => ⟨by rw [← hi]; exact a, b.symm⟩)
  have h3b : Hid (∀ (W : World), Calls Try.prog 39 #[.int .i64 s.wi] W fun e w' => e = .returned (.int .i64 (j : Int)) ∧ W = w') := Lib.hid (fun W => (three_any W s.wi).mono fun e w' ⟨a, b⟩ => ⟨by rw [← hj]; exact a, b.symm⟩)
  have hi3' := Lib.hid hi3
  have hj3' := Lib.hid hj3
  have hi3i : (i : Int) < 3 := by omega
  have hj3i : (j : Int) < 3 := by omega
  obtain ⟨p, hp⟩ : ∃ p, P i = p := ⟨_, rfl⟩
  have hp' := Lib.hid hp
  have hE' := Lib.hid hE
  have hEi : Hid (p.kp = p.kr) := Lib.hid (by rw [← hp]; exact hE i hi3)
  obtain ⟨Q, hQ⟩ : ∃ Q, ChgP w0 T gw Ak ck L = Q := ⟨_, rfl⟩
  have hfin : Hid (∀ P' W, Eqs P' → WS w0 T gw P' Ak ck L W → Q (.returned (.bool true)) W) := Lib.hid fun P' W he hW => by rw [← hQ]; exact ⟨rfl, P', he, hW⟩
  rw [hQ]
  have hs' := Lib.hid hs
  have hT' := Lib.hid hT
  obtain ⟨vs, hvs⟩ : ∃ vs, (stepL s).toArray = vs := ⟨_, rfl⟩
  rw [hvs] at hw1 ⊢
  have c0 := hS1.out.c0
  have c1 := hS1.out.c1
  have c2 := hS1.out.c2
  have d0 := hW1.out.cp hi3
  have d1 := hW1.out.cr hi3
  rw [hp] at d0 d1
  obtain ⟨vp, hvp⟩ : ∃ vp, pv p.o = vp := ⟨_, rfl⟩
  obtain ⟨q, hq⟩ : ∃ q, p.q = q := ⟨_, rfl⟩
  rw [hvp] at d0
  rw [hq] at d1
  have hvp' := Lib.hid hvp
  have hq' := Lib.hid hq
  have hi32 : Hid ((Try.prog.info? 25).map (·.size) = some 32) := Lib.hid (by kernel_rfl)
  have hzk := zeroKy
  have hkl : Hid (s.key.length = 32) := Lib.hid hs.key.1
  have hks : Hid ((u8s s.key).length = 32) := Lib.hid (by simp [u8s, hs.key.1])
  have hpl : Hid (∀ W, WS w0 T gw P Ak ck L W → PlAt w0 T p W) := Lib.hid fun W hW => by rw [← hp]; exact hW.pl i hi3
  clear h hE hs hT hQ hB hvs hi3 hj3 hi hj hp hvp hq
  obtain ⟨k1, k2, k4, k8, k9, k10, k14⟩ := hk
  have e1 : (s.kind == 1) = false := by simpa using k1
  have e2 : (s.kind == 2) = false := by simpa using k2
  have e4 : (s.kind == 4) = false := by simpa using k4
  have e8 : (s.kind == 8) = false := by simpa using k8
  have e9 : (s.kind == 9) = false := by simpa using k9
  have e10 : (s.kind == 10) = false := by simpa using k10
  have e14 : (s.kind == 14) = false := by simpa using k14
  go_enter Try.func24, Try.ntmps24
  go_wp2_with fail
  go_quiet ((go_at_call 39; first | exact quiet_l (fun W => h3a.out W) | exact quiet_l (fun W => h3b.out W)))
  have hWa := Lib.hid (hW1.out.keep (below_drewN (Below.refl _ _) nq))
  have hSa := Lib.hid (hS1.out.below (below_drewN (Below.refl _ _) nq))
  clear hW1 hS1 c0 c1 c2 d0 d1
  generalize w1.drewN nq = wa at hWa hSa ⊢
  have d0 := hWa.out.cp hi3'.out
  have d1 := hWa.out.cr hi3'.out
  rw [hp'.out] at d0 d1
  rw [hvp'.out] at d0
  rw [hq'.out] at d1
  go_wp2_with fail
  go_quiet (fail)
  have hW2 := Lib.hid (hWa.out.keep (below_drewN (Below.refl _ _) nq))
  have hS2 := Lib.hid (hSa.out.below (below_drewN (Below.refl _ _) nq))
  clear hWa hSa d0 d1
  generalize wa.drewN nq = w2 at hW2 hS2 ⊢
  have c0 := hS2.out.c0
  go_wp2_with fail
  exact hfin.out P _ hE'.out hW2.out
end Go.Proofs.Ytlolnpilpdkbkaa

namespace Go.Proofs.Ytlolnpilpdkbkaa
open Go.RowKit Go.Maps
theorem changes_any (w0 w : World) (T : List (List Nat)) (hT : T.length ≤ 1048576) (gw : Nat) (P : Nat → Pl) (Ak : Option Addr) (ck : Nat) (L : List Kp) (h : WS w0 T gw P Ak ck L w) (hE : Eqs P) (s : St) (hs : StOk w0 T s) :
    Calls Try.prog 24 #[.pointer (some ⟨gw, 0, none⟩), .agg (stepL s).toArray] w (ChgP w0 T gw Ak ck L) := by
  by_cases h1 : s.kind = 1
  · exact chg1 w0 w T hT gw P Ak ck L h hE s hs h1
  by_cases h2 : s.kind = 2
  · by_cases hn : (P (th s.on)).o = none
    · exact chg2n w0 w T hT gw P Ak ck L h hE s hs h2 hn
    · exact chg2s w0 w T hT gw P Ak ck L h hE s hs h2 hn
  by_cases h4 : s.kind = 4
  · exact chg4 w0 w T hT gw P Ak ck L h hE s hs h4
  by_cases h8 : s.kind = 8
  · exact chg8 w0 w T hT gw P Ak ck L h hE s hs h8
  by_cases h9 : s.kind = 9
  · exact chg9 w0 w T hT gw P Ak ck L h hE s hs h9
  by_cases h10 : s.kind = 10
  · exact chg10 w0 w T hT gw P Ak ck L h hE s hs h10
  by_cases h14 : s.kind = 14
  · exact chg14 w0 w T hT gw P Ak ck L h hE s hs h14
  exact chgE w0 w T hT gw P Ak ck L h hE s hs ⟨h1, h2, h4, h8, h9, h10, h14⟩
end Go.Proofs.Ytlolnpilpdkbkaa
