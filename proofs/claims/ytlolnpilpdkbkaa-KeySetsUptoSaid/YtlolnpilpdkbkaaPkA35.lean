/- KeySets: changes, kind 2. (Printed by tools/genac.py.) KeySets: changes, kind 4. (Printed by tools/genac.py.) -/
import Derived.Test.YtlolnpilpdkbkaaPkA34

namespace Go.Proofs.Ytlolnpilpdkbkaa
open Go.RowKit Go.Maps
set_option linter.unusedSimpArgs false
set_option linter.unusedVariables false

set_option maxRecDepth 100000 in
set_option maxHeartbeats 4000000 in
theorem chg2s (w0 w : World) (T : List (List Nat)) (hT : T.length ≤ 1048576) (gw : Nat) (P : Nat → Pl) (Ak : Option Addr) (ck : Nat) (L : List Kp) (h : WS w0 T gw P Ak ck L w) (hE : Eqs P) (s : St) (hs : StOk w0 T s)
    (hk : s.kind = 2) (hno : (P (th s.on)).o ≠ none) :
    Calls Try.prog 24 #[.pointer (some ⟨gw, 0, none⟩), .agg (stepL s).toArray] w (ChgP w0 T gw Ak ck L) := by
  obtain ⟨gs, hgs⟩ : ∃ gs, w.heap.size = gs := ⟨_, rfl⟩
  obtain ⟨w1, hw1⟩ : ∃ w1, w.alloc (.cells (stepL s).toArray 60) = w1 := ⟨_, rfl⟩
  have hB : Below w.heap.size w w1 := by rw [← hw1]; exact (Below.refl _ _).alloc (Nat.le_refl _) _
  have hW1 := Lib.hid (h.keep hB)
  have hS1 : Hid (SB gs s w1) := Lib.hid (by rw [← hw1, ← hgs]; exact heap_alloc_new w _)
  obtain ⟨i, hi⟩ : ∃ i, th s.on = i := ⟨_, rfl⟩
  have hi3 : i < 3 := by rw [← hi]; exact th_lt _
  obtain ⟨j, hj⟩ : ∃ j, th s.wi = j := ⟨_, rfl⟩
  have hj3 : j < 3 := by rw [← hj]; exact th_lt _
  have h3a : Hid (∀ (W : World), Calls Try.prog 39 #[.int .i64 s.on] W fun e w' => e = .returned (.int .i64 (i : Int)) ∧ W = w') := Lib.hid (fun W => (three_any W s.on).mono fun e w' ⟨a, b⟩ => ⟨by rw [← hi]; exact a, b.symm⟩)
  have h3b : Hid (∀ (W : World), Calls Try.prog 39 #[.int .i64 s.wi] W fun e w' => e = .returned (.int .i64 (j : Int)) ∧ W = w') := Lib.hid (fun W => (three_any W s.wi).mono fun e w' ⟨a, b⟩ => ⟨by rw [← hj]; exact a, b.symm⟩)
  have hi3' := Lib.hid hi3
  have hj3' := Lib.hid hj3
  have hi3i : (i : Int) < 3 := by omega
  have hj3i : (j : Int) < 3 := by omega
  obtain ⟨p, hp⟩ : ∃ p, P i = p := ⟨_, rfl⟩
  have hp' := Lib.hid hp
  have hE' := Lib.hid hE
  have hEi : Hid (p.kp = p.kr) := Lib.hid (by rw [← hp]; exact hE i hi3)
  obtain ⟨Q, hQ⟩ : ∃ Q, ChgP w0 T gw Ak ck L = Q := ⟨_, rfl⟩
  have hfin : Hid (∀ P' W, Eqs P' → WS w0 T gw P' Ak ck L W → Q (.returned (.bool true)) W) := Lib.hid fun P' W he hW => by rw [← hQ]; exact ⟨rfl, P', he, hW⟩
  rw [hQ]
  have hs' := Lib.hid hs
  have hT' := Lib.hid hT
  obtain ⟨vs, hvs⟩ : ∃ vs, (stepL s).toArray = vs := ⟨_, rfl⟩
  rw [hvs] at hw1 ⊢
  have c0 := hS1.out.c0
  have c1 := hS1.out.c1
  have c2 := hS1.out.c2
  have d0 := hW1.out.cp hi3
  have d1 := hW1.out.cr hi3
  rw [hp] at d0 d1
  obtain ⟨vp, hvp⟩ : ∃ vp, pv p.o = vp := ⟨_, rfl⟩
  obtain ⟨q, hq⟩ : ∃ q, p.q = q := ⟨_, rfl⟩
  rw [hvp] at d0
  rw [hq] at d1
  have hvp' := Lib.hid hvp
  have hq' := Lib.hid hq
  have hi32 : Hid ((Try.prog.info? 25).map (·.size) = some 32) := Lib.hid (by kernel_rfl)
  have hzk := zeroKy
  have hkl : Hid (s.key.length = 32) := Lib.hid hs.key.1
  have hks : Hid ((u8s s.key).length = 32) := Lib.hid (by simp [u8s, hs.key.1])
  have hpl : Hid (∀ W, WS w0 T gw P Ak ck L W → PlAt w0 T p W) := Lib.hid fun W hW => by rw [← hp]; exact hW.pl i hi3
  rw [hi] at hno
  obtain ⟨r, hr⟩ : ∃ r, p.o = some r := Option.isSome_iff_exists.1 (by cases h0 : p.o with | none => exact absurd (hp ▸ h0) hno | some r => rfl)
  have hr' := Lib.hid hr
  have hA1 : Hid (∀ W, WS w0 T gw P Ak ck L W → Calls Try.prog 46 #[vp, .agg (u8s s.key).toArray] W fun e w' => e = .returned (.bool (!decide (s.key ∈ p.kr))) ∧ WS w0 T gw (upP P i { p with kp := insK s.key p.kp }) Ak ck L w' ∧ ∀ gs s, SB gs s W → SB gs s w') := Lib.hid fun W hW => by
    have := hW.callAddP (x := s.key) hT'.out hi3 hs'.out.key hs'.out.inK (hp ▸ hr)
    rw [hp, hvp, hEi.out] at this
    rw [hEi.out]
    exact this
  have hA2 : Hid (∀ W, WS w0 T gw (upP P i { p with kp := insK s.key p.kp }) Ak ck L W → Calls Try.prog 38 #[.pointer (some ⟨q, 0, none⟩), .agg (u8s s.key).toArray] W fun e w' => e = .returned (.bool (!decide (s.key ∈ p.kr))) ∧ (∃ P', Eqs P' ∧ (P' i).o = p.o ∧ WS w0 T gw P' Ak ck L w') ∧ ∀ gs s, SB gs s W → SB gs s w') := Lib.hid fun W hW => by
    have := hW.callAddR (x := s.key) hT'.out hi3 hs'.out.key hs'.out.inK
    rw [upP_same] at this
    rw [show ({ p with kp := insK s.key p.kp } : Pl).q = q from hq] at this
    refine this.mono fun e w' ⟨h1, ⟨A, c, h2⟩, h3⟩ => ⟨h1, ⟨_, ?_, ?_, h2⟩, h3⟩
    · exact Eqs.up2 hE'.out i _ _ (by show insK s.key p.kp = insK s.key p.kr; rw [hEi.out])
    · rw [upP_same]
  have hnb : Hid (∀ P' W, (P' i).o = p.o → WS w0 T gw P' Ak ck L W → W.cell? ⟨gw, 6 + i, none⟩ = some (.bool false)) := Lib.hid fun P' W ho hW => by
    have := hW.cn hi3
    rw [ho, hr] at this
    exact this
  have hpo : Hid ((P i).o = p.o) := Lib.hid (by rw [hp])
  clear hr hno
  generalize (!decide (s.key ∈ p.kr)) = B at hA1 hA2
  clear h hE hs hT hQ hB hvs hi3 hj3 hi hj hp hvp hq
  go_enter Try.func24, Try.ntmps24
  go_wp2_with fail
  go_quiet ((go_at_call 39; first | exact quiet_l (fun W => h3a.out W) | exact quiet_l (fun W => h3b.out W)))
  have hWa := Lib.hid (hW1.out.keep (below_drewN (Below.refl _ _) nq))
  have hSa := Lib.hid (hS1.out.below (below_drewN (Below.refl _ _) nq))
  clear hW1 hS1 c0 c1 c2 d0 d1
  generalize w1.drewN nq = wa at hWa hSa ⊢
  have d0 := hWa.out.cp hi3'.out
  have d1 := hWa.out.cr hi3'.out
  rw [hp'.out] at d0 d1
  rw [hvp'.out] at d0
  rw [hq'.out] at d1
  go_wp2_with fail
  go_quiet (fail)
  have hW2 := Lib.hid (hWa.out.keep (below_drewN (Below.refl _ _) nq))
  have hS2 := Lib.hid (hSa.out.below (below_drewN (Below.refl _ _) nq))
  clear hWa hSa d0 d1
  generalize wa.drewN nq = w2 at hW2 hS2 ⊢
  have c0 := hS2.out.c0
  rw [hk] at c0
  go_wp2_with fail
  have whd : Hid (WS _ _ _ _ _ _ _ w2.drew) := Lib.hid (hW2.out.keep (below_drewN (Below.refl _ _) 1))
  have hd : Hid (SB gs s w2.drew ∧ w2.drew.cell? ⟨gw, 6 + i, none⟩ = some (.bool false)) := Lib.hid ⟨hS2.out.below (below_drewN (Below.refl _ _) 1), hnb.out P _ hpo.out whd.out⟩
  refine wp_region_held (S := fun W => SB gs s W ∧ W.cell? ⟨gw, 6 + i, none⟩ = some (.bool false)) (by kernel_rfl) ?_
  change wpAnyH _ _ _ _ _ _ _ _ (World.drew _)
  refine tk (i := 0) (d := 53) (v := (vp)) rfl rfl (Or.inl ⟨by rfl, by intro W hW; clear hW; go_simp⟩) hd.out ?_
  simp only [List.setIfInBounds_toArray, List.set_cons_zero, List.set_cons_succ]
  refine tk (i := 1) (d := 54) (v := (.pointer (some ⟨gs, 3, none⟩))) rfl rfl (Or.inl ⟨by rfl, by intro W hW; clear hW; go_simp⟩) hd.out ?_
  simp only [List.setIfInBounds_toArray, List.set_cons_zero, List.set_cons_succ]
  refine tk (i := 2) (d := 55) (v := (.agg (u8s s.key).toArray)) rfl rfl (yieldsIf_load_mid (by rfl) 25 _ rfl gs 3 rfl (u8s s.key) _ (fun W hW => hW.1.rk hkl.out) Try.underlying25 rfl (by rw [hks.out]; exact hi32.out)) hd.out ?_
  simp only [List.setIfInBounds_toArray, List.set_cons_zero, List.set_cons_succ]
  refine tk (i := 4) (d := 57) (v := (.pointer (some ⟨gw, 0, none⟩))) rfl rfl (Or.inl ⟨by rfl, by intro W hW; clear hW; go_simp⟩) hd.out ?_
  simp only [List.setIfInBounds_toArray, List.set_cons_zero, List.set_cons_succ]
  refine tk (i := 5) (d := 58) (v := (.int .i64 (i : Int))) rfl rfl (Or.inl ⟨by rfl, by intro W hW; clear hW; go_simp⟩) hd.out ?_
  simp only [List.setIfInBounds_toArray, List.set_cons_zero, List.set_cons_succ]
  refine tk (i := 6) (d := 59) (v := (.pointer (some ⟨gw, 0, none⟩))) rfl rfl (Or.inl ⟨by rfl, by intro W hW; clear hW; go_simp⟩) hd.out ?_
  simp only [List.setIfInBounds_toArray, List.set_cons_zero, List.set_cons_succ]
  refine tk (i := 7) (d := 60) (v := (.pointer (some ⟨gw, 6, none⟩))) rfl rfl (Or.inl ⟨by rfl, by intro W hW; clear hW; go_simp⟩) hd.out ?_
  simp only [List.setIfInBounds_toArray, List.set_cons_zero, List.set_cons_succ]
  refine tk (i := 8) (d := 61) (v := (.pointer (some ⟨gw, 6 + i, none⟩))) rfl rfl (Or.inl ⟨by rfl, by intro W hW; clear hW; go_simp⟩) hd.out ?_
  simp only [List.setIfInBounds_toArray, List.set_cons_zero, List.set_cons_succ]
  refine tk (i := 9) (d := 62) (v := (.bool false)) rfl rfl (Or.inl ⟨by rfl, by intro W hW; have c0 := hW.2; clear hW; go_simp⟩) hd.out ?_
  simp only [List.setIfInBounds_toArray, List.set_cons_zero, List.set_cons_succ]
  refine tk (i := 10) (d := 63) (v := (.bool true)) rfl rfl (Or.inl ⟨by rfl, by intro W hW; clear hW; go_simp⟩) hd.out ?_
  simp only [List.setIfInBounds_toArray, List.set_cons_zero, List.set_cons_succ]
  refine wpAnyH_ready (rs := [3]) (by kernel_rfl) (by simp) ?_
  refine AllReadyH.cons rfl (fun K hK => ?_) AllReadyH.nil
  go_simp
  refine (hA1.out _ whd.out).mono ?_
  rintro e v1 ⟨rfl, q1, z1⟩
  have hd1 : Hid (SB gs s v1 ∧ v1.cell? ⟨gw, 6 + i, none⟩ = some (.bool false)) := Lib.hid ⟨z1 gs s hd.out.1, hnb.out _ _ (by rw [upP_same]) q1⟩
  have whd1 := Lib.hid q1
  clear q1 z1
  refine hK.out _ _ hd1.out (fun _ => ?_)
  clear hK K
  refine tk (i := 11) (d := 64) (v := (.bool true)) rfl rfl (Or.inl ⟨by rfl, by intro W hW; clear hW; go_simp⟩) hd1.out ?_
  simp only [List.setIfInBounds_toArray, List.set_cons_zero, List.set_cons_succ]
  refine tk (i := 12) (d := 65) (v := (.pointer (some ⟨q, 0, none⟩))) rfl rfl (Or.inl ⟨by rfl, by intro W hW; clear hW; go_simp⟩) hd1.out ?_
  simp only [List.setIfInBounds_toArray, List.set_cons_zero, List.set_cons_succ]
  refine tk (i := 13) (d := 66) (v := (.pointer (some ⟨gs, 3, none⟩))) rfl rfl (Or.inl ⟨by rfl, by intro W hW; clear hW; go_simp⟩) hd1.out ?_
  simp only [List.setIfInBounds_toArray, List.set_cons_zero, List.set_cons_succ]
  refine tk (i := 14) (d := 67) (v := (.agg (u8s s.key).toArray)) rfl rfl (yieldsIf_load_mid (by rfl) 25 _ rfl gs 3 rfl (u8s s.key) _ (fun W hW => hW.1.rk hkl.out) Try.underlying25 rfl (by rw [hks.out]; exact hi32.out)) hd1.out ?_
  simp only [List.setIfInBounds_toArray, List.set_cons_zero, List.set_cons_succ]
  refine wpAnyH_ready (rs := [15]) (by kernel_rfl) (by simp) ?_
  refine AllReadyH.cons rfl (fun K hK => ?_) AllReadyH.nil
  go_simp
  refine (hA2.out _ whd1.out).mono ?_
  rintro e v2 ⟨rfl, ⟨P2, hE2, ho2, q2⟩, z2⟩
  have hd2 : Hid (SB gs s v2 ∧ v2.cell? ⟨gw, 6 + i, none⟩ = some (.bool false)) := Lib.hid ⟨z2 gs s hd1.out.1, hnb.out _ _ ho2 q2⟩
  have whd2 := Lib.hid (show ∃ P2, Eqs P2 ∧ WS w0 T gw P2 Ak ck L v2 from ⟨P2, hE2, q2⟩)
  clear q2 z2 hE2 ho2
  refine hK.out _ _ hd2.out (fun _ => ?_)
  clear hK K
  refine tk (i := 16) (d := 69) (v := (.bool B)) rfl rfl (Or.inl ⟨by rfl, by intro W hW; clear hW; go_simp⟩) hd2.out ?_
  simp only [List.setIfInBounds_toArray, List.set_cons_zero, List.set_cons_succ]
  refine tk (i := 17) (d := 70) (v := (.bool true)) rfl rfl (Or.inl ⟨by rfl, by intro W hW; clear hW; go_simp⟩) hd2.out ?_
  simp only [List.setIfInBounds_toArray, List.set_cons_zero, List.set_cons_succ]
  refine tk (i := 18) (d := 4) (v := (.bool true)) rfl rfl (Or.inl ⟨by rfl, by intro W hW; clear hW; go_simp⟩) hd2.out ?_
  simp only [List.setIfInBounds_toArray, List.set_cons_zero, List.set_cons_succ]
  refine wpAnyH_done (by kernel_rfl) ?_ _
  obtain ⟨P2, hE2, hW9⟩ := whd2.out
  have hf := Lib.hid (hfin.out P2 _ hE2 hW9)
  clear hE2 hW9
  go_wp2_with fail
  exact hf.out
set_option maxRecDepth 100000 in
set_option maxHeartbeats 4000000 in
theorem chg2n (w0 w : World) (T : List (List Nat)) (hT : T.length ≤ 1048576) (gw : Nat) (P : Nat → Pl) (Ak : Option Addr) (ck : Nat) (L : List Kp) (h : WS w0 T gw P Ak ck L w) (hE : Eqs P) (s : St) (hs : StOk w0 T s)
    (hk : s.kind = 2) (hno : (P (th s.on)).o = none) :
    Calls Try.prog 24 #[.pointer (some ⟨gw, 0, none⟩), .agg (stepL s).toArray] w (ChgP w0 T gw Ak ck L) := by
  obtain ⟨gs, hgs⟩ : ∃ gs, w.heap.size = gs := ⟨_, rfl⟩
  obtain ⟨w1, hw1⟩ : ∃ w1, w.alloc (.cells (stepL s).toArray 60) = w1 := ⟨_, rfl⟩
  have hB : Below w.heap.size w w1 := by rw [← hw1]; exact (Below.refl _ _).alloc (Nat.le_refl _) _
  have hW1 := Lib.hid (h.keep hB)
  have hS1 : Hid (SB gs s w1) := Lib.hid (by rw [← hw1, ← hgs]; exact heap_alloc_new w _)
  obtain ⟨i, hi⟩ : ∃ i, th s.on = i := ⟨_, rfl⟩
  have hi3 : i < 3 := by rw [← hi]; exact th_lt _
  obtain ⟨j, hj⟩ : ∃ j, th s.wi = j := ⟨_, rfl⟩
  have hj3 : j < 3 := by rw [← hj]; exact th_lt _
  have h3a : Hid (∀ (W : World), Calls Try.prog 39 #[.int .i64 s.on] W fun e w' => e = .returned (.int .i64 (i : Int)) ∧ W = w') := Lib.hid (fun W => (three_any W s.on).mono fun e w' ⟨a, b⟩ => ⟨by rw [← hi]; exact a, b.symm⟩)
  have h3b : Hid (∀ (W : World), Calls Try.prog 39 #[.int .i64 s.wi] W fun e w' => e = .returned (.int .i64 (j : Int)) ∧ W = w') := Lib.hid (fun W => (three_any W s.wi).mono fun e w' ⟨a, b⟩ => ⟨by rw [← hj]; exact a, b.symm⟩)
  have hi3' := Lib.hid hi3
  have hj3' := Lib.hid hj3
  have hi3i : (i : Int) < 3 := by omega
  have hj3i : (j : Int) < 3 := by omega
  obtain ⟨p, hp⟩ : ∃ p, P i = p := ⟨_, rfl⟩
  have hp' := Lib.hid hp
  have hE' := Lib.hid hE
  have hEi : Hid (p.kp = p.kr) := Lib.hid (by rw [← hp]; exact hE i hi3)
  obtain ⟨Q, hQ⟩ : ∃ Q, ChgP w0 T gw Ak ck L = Q := ⟨_, rfl⟩
  have hfin : Hid (∀ P' W, Eqs P' → WS w0 T gw P' Ak ck L W → Q (.returned (.bool true)) W) := Lib.hid fun P' W he hW => by rw [← hQ]; exact ⟨rfl, P', he, hW⟩
  rw [hQ]
  have hs' := Lib.hid hs
  have hT' := Lib.hid hT
  obtain ⟨vs, hvs⟩ : ∃ vs, (stepL s).toArray = vs := ⟨_, rfl⟩
  rw [hvs] at hw1 ⊢
  have c0 := hS1.out.c0
  have c1 := hS1.out.c1
  have c2 := hS1.out.c2
  have d0 := hW1.out.cp hi3
  have d1 := hW1.out.cr hi3
  rw [hp] at d0 d1
  obtain ⟨vp, hvp⟩ : ∃ vp, pv p.o = vp := ⟨_, rfl⟩
  obtain ⟨q, hq⟩ : ∃ q, p.q = q := ⟨_, rfl⟩
  rw [hvp] at d0
  rw [hq] at d1
  have hvp' := Lib.hid hvp
  have hq' := Lib.hid hq
  have hi32 : Hid ((Try.prog.info? 25).map (·.size) = some 32) := Lib.hid (by kernel_rfl)
  have hzk := zeroKy
  have hkl : Hid (s.key.length = 32) := Lib.hid hs.key.1
  have hks : Hid ((u8s s.key).length = 32) := Lib.hid (by simp [u8s, hs.key.1])
  have hpl : Hid (∀ W, WS w0 T gw P Ak ck L W → PlAt w0 T p W) := Lib.hid fun W hW => by rw [← hp]; exact hW.pl i hi3
  rw [hi] at hno
  have hA1 : Hid (∀ W, WS w0 T gw P Ak ck L W → Calls Try.prog 46 #[vp, .agg (u8s s.key).toArray] W fun e w' => e = .returned (.bool false) ∧ Below W.heap.size W w') := Lib.hid fun W hW => by
    have := addO_any W p.o p.kp (hpl.out W hW).set (by have := (hpl.out W hW).lenP; omega) s.key hs'.out.key
    unfold AddO at this
    rw [show p.o = none from hp ▸ hno] at this
    rw [← hvp, show p.o = none from hp ▸ hno]
    exact this
  have hnb : Hid (∀ W, WS w0 T gw P Ak ck L W → W.cell? ⟨gw, 6 + i, none⟩ = some (.bool true)) := Lib.hid fun W hW => by
    have := hW.cn hi3
    rw [hno] at this
    exact this
  clear hno
  clear h hE hs hT hQ hB hvs hi3 hj3 hi hj hp hvp hq
  go_enter Try.func24, Try.ntmps24
  go_wp2_with fail
  go_quiet ((go_at_call 39; first | exact quiet_l (fun W => h3a.out W) | exact quiet_l (fun W => h3b.out W)))
  have hWa := Lib.hid (hW1.out.keep (below_drewN (Below.refl _ _) nq))
  have hSa := Lib.hid (hS1.out.below (below_drewN (Below.refl _ _) nq))
  clear hW1 hS1 c0 c1 c2 d0 d1
  generalize w1.drewN nq = wa at hWa hSa ⊢
  have d0 := hWa.out.cp hi3'.out
  have d1 := hWa.out.cr hi3'.out
  rw [hp'.out] at d0 d1
  rw [hvp'.out] at d0
  rw [hq'.out] at d1
  go_wp2_with fail
  go_quiet (fail)
  have hW2 := Lib.hid (hWa.out.keep (below_drewN (Below.refl _ _) nq))
  have hS2 := Lib.hid (hSa.out.below (below_drewN (Below.refl _ _) nq))
  clear hWa hSa d0 d1
  generalize wa.drewN nq = w2 at hW2 hS2 ⊢
  have c0 := hS2.out.c0
  rw [hk] at c0
  go_wp2_with fail
  have whd : Hid (WS _ _ _ _ _ _ _ w2.drew) := Lib.hid (hW2.out.keep (below_drewN (Below.refl _ _) 1))
  have hd : Hid (SB gs s w2.drew ∧ w2.drew.cell? ⟨gw, 6 + i, none⟩ = some (.bool true)) := Lib.hid ⟨hS2.out.below (below_drewN (Below.refl _ _) 1), hnb.out _ whd.out⟩
  refine wp_region_held (S := fun W => SB gs s W ∧ W.cell? ⟨gw, 6 + i, none⟩ = some (.bool true)) (by kernel_rfl) ?_
  change wpAnyH _ _ _ _ _ _ _ _ (World.drew _)
  refine tk (i := 0) (d := 53) (v := (vp)) rfl rfl (Or.inl ⟨by rfl, by intro W hW; clear hW; go_simp⟩) hd.out ?_
  simp only [List.setIfInBounds_toArray, List.set_cons_zero, List.set_cons_succ]
  refine tk (i := 1) (d := 54) (v := (.pointer (some ⟨gs, 3, none⟩))) rfl rfl (Or.inl ⟨by rfl, by intro W hW; clear hW; go_simp⟩) hd.out ?_
  simp only [List.setIfInBounds_toArray, List.set_cons_zero, List.set_cons_succ]
  refine tk (i := 2) (d := 55) (v := (.agg (u8s s.key).toArray)) rfl rfl (yieldsIf_load_mid (by rfl) 25 _ rfl gs 3 rfl (u8s s.key) _ (fun W hW => hW.1.rk hkl.out) Try.underlying25 rfl (by rw [hks.out]; exact hi32.out)) hd.out ?_
  simp only [List.setIfInBounds_toArray, List.set_cons_zero, List.set_cons_succ]
  refine tk (i := 4) (d := 57) (v := (.pointer (some ⟨gw, 0, none⟩))) rfl rfl (Or.inl ⟨by rfl, by intro W hW; clear hW; go_simp⟩) hd.out ?_
  simp only [List.setIfInBounds_toArray, List.set_cons_zero, List.set_cons_succ]
  refine tk (i := 5) (d := 58) (v := (.int .i64 (i : Int))) rfl rfl (Or.inl ⟨by rfl, by intro W hW; clear hW; go_simp⟩) hd.out ?_
  simp only [List.setIfInBounds_toArray, List.set_cons_zero, List.set_cons_succ]
  refine tk (i := 6) (d := 59) (v := (.pointer (some ⟨gw, 0, none⟩))) rfl rfl (Or.inl ⟨by rfl, by intro W hW; clear hW; go_simp⟩) hd.out ?_
  simp only [List.setIfInBounds_toArray, List.set_cons_zero, List.set_cons_succ]
  refine tk (i := 7) (d := 60) (v := (.pointer (some ⟨gw, 6, none⟩))) rfl rfl (Or.inl ⟨by rfl, by intro W hW; clear hW; go_simp⟩) hd.out ?_
  simp only [List.setIfInBounds_toArray, List.set_cons_zero, List.set_cons_succ]
  refine tk (i := 8) (d := 61) (v := (.pointer (some ⟨gw, 6 + i, none⟩))) rfl rfl (Or.inl ⟨by rfl, by intro W hW; clear hW; go_simp⟩) hd.out ?_
  simp only [List.setIfInBounds_toArray, List.set_cons_zero, List.set_cons_succ]
  refine tk (i := 9) (d := 62) (v := (.bool true)) rfl rfl (Or.inl ⟨by rfl, by intro W hW; have c0 := hW.2; clear hW; go_simp⟩) hd.out ?_
  simp only [List.setIfInBounds_toArray, List.set_cons_zero, List.set_cons_succ]
  refine tk (i := 10) (d := 63) (v := (.bool false)) rfl rfl (Or.inl ⟨by rfl, by intro W hW; clear hW; go_simp⟩) hd.out ?_
  simp only [List.setIfInBounds_toArray, List.set_cons_zero, List.set_cons_succ]
  refine wpAnyH_ready (rs := [3]) (by kernel_rfl) (by simp) ?_
  refine AllReadyH.cons rfl (fun K hK => ?_) AllReadyH.nil
  go_simp
  refine (hA1.out _ whd.out).mono ?_
  rintro e v1 ⟨rfl, q1⟩
  have whd1 := Lib.hid (whd.out.keep q1)
  have hd1 : Hid (SB gs s v1 ∧ v1.cell? ⟨gw, 6 + i, none⟩ = some (.bool true)) := Lib.hid ⟨hd.out.1.below q1, hnb.out _ whd1.out⟩
  clear q1
  refine hK.out _ _ hd1.out (fun _ => ?_)
  clear hK K
  refine tk (i := 11) (d := 64) (v := (.bool false)) rfl rfl (Or.inl ⟨by rfl, by intro W hW; clear hW; go_simp⟩) hd1.out ?_
  simp only [List.setIfInBounds_toArray, List.set_cons_zero, List.set_cons_succ]
  refine tk (i := 12) (d := 65) (v := undef) rfl rfl (Or.inr ⟨by rfl, by rfl⟩) hd1.out ?_
  simp only [List.setIfInBounds_toArray, List.set_cons_zero, List.set_cons_succ]
  refine tk (i := 13) (d := 66) (v := undef) rfl rfl (Or.inr ⟨by rfl, by rfl⟩) hd1.out ?_
  simp only [List.setIfInBounds_toArray, List.set_cons_zero, List.set_cons_succ]
  refine tk (i := 14) (d := 67) (v := undef) rfl rfl (Or.inr ⟨by rfl, by rfl⟩) hd1.out ?_
  simp only [List.setIfInBounds_toArray, List.set_cons_zero, List.set_cons_succ]
  refine wpAnyH_ready (rs := [15]) (by kernel_rfl) (by simp) ?_
  refine AllReadyH.cons rfl (fun K hK => ?_) AllReadyH.nil
  go_simp
  refine hK.out _ _ hd1.out (fun _ => ?_)
  clear hK K
  refine tk (i := 16) (d := 69) (v := (.bool false)) rfl rfl (Or.inl ⟨by rfl, by intro W hW; clear hW; go_simp⟩) hd1.out ?_
  simp only [List.setIfInBounds_toArray, List.set_cons_zero, List.set_cons_succ]
  refine tk (i := 17) (d := 70) (v := (.bool true)) rfl rfl (Or.inl ⟨by rfl, by intro W hW; clear hW; go_simp⟩) hd1.out ?_
  simp only [List.setIfInBounds_toArray, List.set_cons_zero, List.set_cons_succ]
  refine tk (i := 18) (d := 4) (v := (.bool true)) rfl rfl (Or.inl ⟨by rfl, by intro W hW; clear hW; go_simp⟩) hd1.out ?_
  simp only [List.setIfInBounds_toArray, List.set_cons_zero, List.set_cons_succ]
  refine wpAnyH_done (by kernel_rfl) ?_ _
  have hf := Lib.hid (hfin.out P _ hE'.out whd1.out)
  go_wp2_with fail
  exact hf.out
end Go.Proofs.Ytlolnpilpdkbkaa

namespace Go.Proofs.Ytlolnpilpdkbkaa
open Go.RowKit Go.Maps
set_option linter.unusedSimpArgs false
set_option linter.unusedVariables false

set_option maxRecDepth 100000 in
set_option maxHeartbeats 4000000 in
theorem chg4 (w0 w : World) (T : List (List Nat)) (hT : T.length ≤ 1048576) (gw : Nat) (P : Nat → Pl) (Ak : Option Addr) (ck : Nat) (L : List Kp) (h : WS w0 T gw P Ak ck L w) (hE : Eqs P) (s : St) (hs : StOk w0 T s)
    (hk : s.kind = 4) :
    Calls Try.prog 24 #[.pointer (some ⟨gw, 0, none⟩), .agg (stepL s).toArray] w (ChgP w0 T gw Ak ck L) := by
  obtain ⟨gs, hgs⟩ : ∃ gs, w.heap.size = gs := ⟨_, rfl⟩
  obtain ⟨w1, hw1⟩ : ∃ w1, w.alloc (.cells (stepL s).toArray 60) = w1 := ⟨_, rfl⟩
  have hB : Below w.heap.size w w1 := by rw [← hw1]; exact (Below.refl _ _).alloc (Nat.le_refl _) _
  have hW1 := Lib.hid (h.keep hB)
  have hS1 : Hid (SB gs s w1) := Lib.hid (by rw [← hw1, ← hgs]; exact heap_alloc_new w _)
  obtain ⟨i, hi⟩ : ∃ i, th s.on = i := ⟨_, rfl⟩
  have hi3 : i < 3 := by rw [← hi]; exact th_lt _
  obtain ⟨j, hj⟩ : ∃ j, th s.wi = j := ⟨_, rfl⟩
  have hj3 : j < 3 := by rw [← hj]; exact th_lt _
  have h3a : Hid (∀ (W : World), Calls Try.prog 39 #[.int .i64 s.on] W fun e w' => e = .returned (.int .i64 (i : Int)) ∧ W = w') := Lib.hid (fun W => (three_any W s.on).mono fun e w' ⟨a, b⟩ => ⟨by rw [← hi]; exact a, b.symm⟩)
  have h3b : Hid (∀ (W : World), Calls Try.prog 39 #[.int .i64 s.wi] W fun e w' => e = .returned (.int .i64 (j : Int)) ∧ W = w') := Lib.hid (fun W => (three_any W s.wi).mono fun e w' ⟨a, b⟩ => ⟨by rw [← hj]; exact a, b.symm⟩)
  have hi3' := Lib.hid hi3
  have hj3' := Lib.hid hj3
  have hi3i : (i : Int) < 3 := by omega
  have hj3i : (j : Int) < 3 := by omega
  obtain ⟨p, hp⟩ : ∃ p, P i = p := ⟨_, rfl⟩
  have hp' := Lib.hid hp
  have hE' := Lib.hid hE
  have hEi : Hid (p.kp = p.kr) := Lib.hid (by rw [← hp]; exact hE i hi3)
  obtain ⟨Q, hQ⟩ : ∃ Q, ChgP w0 T gw Ak ck L = Q := ⟨_, rfl⟩
  have hfin : Hid (∀ P' W, Eqs P' → WS w0 T gw P' Ak ck L W → Q (.returned (.bool true)) W) := Lib.hid fun P' W he hW => by rw [← hQ]; exact ⟨rfl, P', he, hW⟩
  rw [hQ]
  have hs' := Lib.hid hs
  have hT' := Lib.hid hT
  obtain ⟨vs, hvs⟩ : ∃ vs, (stepL s).toArray = vs := ⟨_, rfl⟩
  rw [hvs] at hw1 ⊢
  have c0 := hS1.out.c0
  have c1 := hS1.out.c1
  have c2 := hS1.out.c2
  have d0 := hW1.out.cp hi3
  have d1 := hW1.out.cr hi3
  rw [hp] at d0 d1
  obtain ⟨vp, hvp⟩ : ∃ vp, pv p.o = vp := ⟨_, rfl⟩
  obtain ⟨q, hq⟩ : ∃ q, p.q = q := ⟨_, rfl⟩
  rw [hvp] at d0
  rw [hq] at d1
  have hvp' := Lib.hid hvp
  have hq' := Lib.hid hq
  have hi32 : Hid ((Try.prog.info? 25).map (·.size) = some 32) := Lib.hid (by kernel_rfl)
  have hzk := zeroKy
  have hkl : Hid (s.key.length = 32) := Lib.hid hs.key.1
  have hks : Hid ((u8s s.key).length = 32) := Lib.hid (by simp [u8s, hs.key.1])
  have hpl : Hid (∀ W, WS w0 T gw P Ak ck L W → PlAt w0 T p W) := Lib.hid fun W hW => by rw [← hp]; exact hW.pl i hi3
  have hD1 : Hid (∀ W, WS w0 T gw P Ak ck L W → Calls Try.prog 47 #[vp, .agg (u8s s.key).toArray] W fun e w' => e = .returned (.bool (decide (s.key ∈ p.kr))) ∧ WS w0 T gw (upP P i { p with kp := delK s.key p.kp }) Ak ck L w' ∧ ∀ gs s, SB gs s W → SB gs s w') := Lib.hid fun W hW => by
    have := hW.callDelP (x := s.key) hi3 hs'.out.key
    rw [hp, hvp, hEi.out] at this
    rw [hEi.out]
    exact this
  have hD2 : Hid (∀ W, WS w0 T gw (upP P i { p with kp := delK s.key p.kp }) Ak ck L W → Calls Try.prog 48 #[.pointer (some ⟨q, 0, none⟩), .agg (u8s s.key).toArray] W fun e w' => e = .returned (.bool (decide (s.key ∈ p.kr))) ∧ (∃ P', Eqs P' ∧ WS w0 T gw P' Ak ck L w') ∧ ∀ gs s, SB gs s W → SB gs s w') := Lib.hid fun W hW => by
    have := hW.callDelR (x := s.key) hT'.out hi3 hs'.out.key
    rw [upP_same] at this
    rw [show ({ p with kp := delK s.key p.kp } : Pl).q = q from hq] at this
    refine this.mono fun e w' ⟨h1, ⟨A, c, h2⟩, h3⟩ => ⟨h1, ⟨_, ?_, h2⟩, h3⟩
    exact Eqs.up2 hE'.out i _ _ (by show delK s.key p.kp = delK s.key p.kr; rw [hEi.out])
  generalize decide (s.key ∈ p.kr) = B at hD1 hD2
  clear h hE hs hT hQ hB hvs hi3 hj3 hi hj hp hvp hq
  go_enter Try.func24, Try.ntmps24
  go_wp2_with fail
  go_quiet ((go_at_call 39; first | exact quiet_l (fun W => h3a.out W) | exact quiet_l (fun W => h3b.out W)))
  have hWa := Lib.hid (hW1.out.keep (below_drewN (Below.refl _ _) nq))
  have hSa := Lib.hid (hS1.out.below (below_drewN (Below.refl _ _) nq))
  clear hW1 hS1 c0 c1 c2 d0 d1
  generalize w1.drewN nq = wa at hWa hSa ⊢
  have d0 := hWa.out.cp hi3'.out
  have d1 := hWa.out.cr hi3'.out
  rw [hp'.out] at d0 d1
  rw [hvp'.out] at d0
  rw [hq'.out] at d1
  go_wp2_with fail
  go_quiet (fail)
  have hW2 := Lib.hid (hWa.out.keep (below_drewN (Below.refl _ _) nq))
  have hS2 := Lib.hid (hSa.out.below (below_drewN (Below.refl _ _) nq))
  clear hWa hSa d0 d1
  generalize wa.drewN nq = w2 at hW2 hS2 ⊢
  have c0 := hS2.out.c0
  rw [hk] at c0
  go_wp2_with fail
  have hd : Hid (SB gs s w2.drew) := Lib.hid (hS2.out.below (below_drewN (Below.refl _ _) 1))
  have whd : Hid (WS _ _ _ _ _ _ _ w2.drew) := Lib.hid (hW2.out.keep (below_drewN (Below.refl _ _) 1))
  refine wp_region_held (S := SB gs s) (by kernel_rfl) ?_
  change wpAnyH _ _ _ _ _ _ _ _ (World.drew _)
  refine tk (i := 0) (d := 73) (v := (vp)) rfl rfl (Or.inl ⟨by rfl, by intro W hW; clear hW; go_simp⟩) hd.out ?_
  simp only [List.setIfInBounds_toArray, List.set_cons_zero, List.set_cons_succ]
  refine tk (i := 1) (d := 74) (v := (.pointer (some ⟨gs, 3, none⟩))) rfl rfl (Or.inl ⟨by rfl, by intro W hW; clear hW; go_simp⟩) hd.out ?_
  simp only [List.setIfInBounds_toArray, List.set_cons_zero, List.set_cons_succ]
  refine tk (i := 2) (d := 75) (v := (.agg (u8s s.key).toArray)) rfl rfl (yieldsIf_load_mid (by rfl) 25 _ rfl gs 3 rfl (u8s s.key) _ (fun W hW => hW.rk hkl.out) Try.underlying25 rfl (by rw [hks.out]; exact hi32.out)) hd.out ?_
  simp only [List.setIfInBounds_toArray, List.set_cons_zero, List.set_cons_succ]
  refine tk (i := 4) (d := 77) (v := (.pointer (some ⟨q, 0, none⟩))) rfl rfl (Or.inl ⟨by rfl, by intro W hW; clear hW; go_simp⟩) hd.out ?_
  simp only [List.setIfInBounds_toArray, List.set_cons_zero, List.set_cons_succ]
  refine tk (i := 5) (d := 78) (v := (.pointer (some ⟨gs, 3, none⟩))) rfl rfl (Or.inl ⟨by rfl, by intro W hW; clear hW; go_simp⟩) hd.out ?_
  simp only [List.setIfInBounds_toArray, List.set_cons_zero, List.set_cons_succ]
  refine tk (i := 6) (d := 79) (v := (.agg (u8s s.key).toArray)) rfl rfl (yieldsIf_load_mid (by rfl) 25 _ rfl gs 3 rfl (u8s s.key) _ (fun W hW => hW.rk hkl.out) Try.underlying25 rfl (by rw [hks.out]; exact hi32.out)) hd.out ?_
  simp only [List.setIfInBounds_toArray, List.set_cons_zero, List.set_cons_succ]
  refine wpAnyH_ready (rs := [3]) (by kernel_rfl) (by simp) ?_
  refine AllReadyH.cons rfl (fun K hK => ?_) AllReadyH.nil
  go_simp
  refine (hD1.out _ whd.out).mono ?_
  rintro e v1 ⟨rfl, q1, z1⟩
  have hd1 : Hid (SB gs s v1) := Lib.hid (z1 gs s hd.out)
  have whd1 := Lib.hid q1
  clear q1 z1
  refine hK.out _ _ hd1.out (fun _ => ?_)
  clear hK K
  refine wpAnyH_ready (rs := [7]) (by kernel_rfl) (by simp) ?_
  refine AllReadyH.cons rfl (fun K hK => ?_) AllReadyH.nil
  go_simp
  refine (hD2.out _ whd1.out).mono ?_
  rintro e v2 ⟨rfl, q2, z2⟩
  have hd2 : Hid (SB gs s v2) := Lib.hid (z2 gs s hd1.out)
  have whd2 := Lib.hid q2
  clear q2 z2
  refine hK.out _ _ hd2.out (fun _ => ?_)
  clear hK K
  refine tk (i := 8) (d := 81) (v := (.bool true)) rfl rfl (Or.inl ⟨by rfl, by intro W hW; clear hW; go_simp⟩) hd2.out ?_
  simp only [List.setIfInBounds_toArray, List.set_cons_zero, List.set_cons_succ]
  refine tk (i := 9) (d := 4) (v := (.bool true)) rfl rfl (Or.inl ⟨by rfl, by intro W hW; clear hW; go_simp⟩) hd2.out ?_
  simp only [List.setIfInBounds_toArray, List.set_cons_zero, List.set_cons_succ]
  refine wpAnyH_done (by kernel_rfl) ?_ _
  obtain ⟨P2, hE2, hW9⟩ := whd2.out
  have hf := Lib.hid (hfin.out P2 _ hE2 hW9)
  clear hE2 hW9
  go_wp2_with fail
  exact hf.out
end Go.Proofs.Ytlolnpilpdkbkaa
