/- KeySets: asks, kind 0. (Printed by tools/genak.py.) KeySets: asks, kind 3. (Printed by tools/genak.py.) KeySets: asks, kind 5. (Printed by tools/genak.py.) KeySets: asks, kind 6. (Printed by tools/genak.py.) -/
import Derived.Test.YtlolnpilpdkbkaaPkA30

namespace Go.Proofs.Ytlolnpilpdkbkaa
open Go.RowKit Go.Maps
set_option linter.unusedSimpArgs false
set_option linter.unusedVariables false

set_option maxRecDepth 100000 in
set_option maxHeartbeats 4000000 in
theorem asks0 (w0 w : World) (T : List (List Nat)) (hT : T.length ≤ 1048576) (gw : Nat) (P : Nat → Pl) (Ak : Option Addr) (ck : Nat) (K : List Kp) (hKl : K.length ≤ 1048576) (h : WS w0 T gw P Ak ck K w) (hE : Eqs P) (s : St) (hs : StOk w0 T s)
    (hk : s.kind ≠ 3 ∧ s.kind ≠ 5 ∧ s.kind ≠ 6 ∧ s.kind ≠ 7 ∧ s.kind ≠ 13 ∧ s.kind ≠ 11 ∧ s.kind ≠ 12) :
    Calls Try.prog 23 #[.pointer (some ⟨gw, 0, none⟩), .agg (stepL s).toArray] w (AskP w0 T gw P K) := by
  obtain ⟨gs, hgs⟩ : ∃ gs, w.heap.size = gs := ⟨_, rfl⟩
  obtain ⟨w1, hw1⟩ : ∃ w1, w.alloc (.cells (stepL s).toArray 60) = w1 := ⟨_, rfl⟩
  have hB : Below w.heap.size w w1 := by rw [← hw1]; exact (Below.refl _ _).alloc (Nat.le_refl _) _
  have hW1 := Lib.hid (h.keep hB)
  have hS1 : Hid (SB gs s w1) := Lib.hid (by rw [← hw1, ← hgs]; exact heap_alloc_new w _)
  obtain ⟨i, hi⟩ : ∃ i, th s.on = i := ⟨_, rfl⟩
  have hi3 : i < 3 := by rw [← hi]; exact th_lt _
  have h3 := Lib.hid (three_any w1 s.on)
  rw [hi] at h3
  have hi3' := Lib.hid hi3
  have hi3i : (i : Int) < 3 := by omega
  obtain ⟨p, hp⟩ : ∃ p, P i = p := ⟨_, rfl⟩
  have hp' := Lib.hid hp
  have hEi : Hid (p.kp = p.kr) := Lib.hid (by rw [← hp]; exact hE i hi3)
  obtain ⟨Q, hQ⟩ : ∃ Q, AskP w0 T gw P K = Q := ⟨_, rfl⟩
  have hfin : Hid (∀ W, WS w0 T gw P Ak ck K W → Q (.returned (.bool true)) W) := Lib.hid fun W hW => by rw [← hQ]; exact ⟨rfl, Ak, ck, K, by omega, hW⟩
  have hQ' := Lib.hid hQ
  rw [hQ]
  have hs' := Lib.hid hs
  have hT' := Lib.hid hT
  have hKl' := Lib.hid hKl
  obtain ⟨vs, hvs⟩ : ∃ vs, (stepL s).toArray = vs := ⟨_, rfl⟩
  rw [hvs] at hw1 ⊢
  have c0 := hS1.out.c0
  have c1 := hS1.out.c1
  have d0 := hW1.out.cp hi3
  have d1 := hW1.out.cr hi3
  rw [hp] at d0 d1
  obtain ⟨vp, hvp⟩ : ∃ vp, pv p.o = vp := ⟨_, rfl⟩
  obtain ⟨q, hq⟩ : ∃ q, p.q = q := ⟨_, rfl⟩
  rw [hvp] at d0
  rw [hq] at d1
  have hvp' := Lib.hid hvp
  have hq' := Lib.hid hq
  have hi32 : Hid ((Try.prog.info? 25).map (·.size) = some 32) := Lib.hid (by kernel_rfl)
  have hzs : Hid ((u8s (zeros 32)).toArray.size = 32) := Lib.hid (by simp [u8s, zeros])
  have hzk := zeroKy
  have hkl : Hid (s.key.length = 32) := Lib.hid hs.key.1
  have hks : Hid ((u8s s.key).length = 32) := Lib.hid (by simp [u8s, hs.key.1])
  have hpl : Hid (∀ W, WS w0 T gw P Ak ck K W → PlAt w0 T p W) := Lib.hid fun W hW => by rw [← hp]; exact hW.pl i hi3
  clear h hE hs hT hKl hQ hB hvs hi hi3 hp hvp hq
  obtain ⟨k3, k5, k6, k7, k13, k11, k12⟩ := hk
  have e3 : (s.kind == 3) = false := by simpa using k3
  have e5 : (s.kind == 5) = false := by simpa using k5
  have e6 : (s.kind == 6) = false := by simpa using k6
  have e7 : (s.kind == 7) = false := by simpa using k7
  have e13 : (s.kind == 13) = false := by simpa using k13
  have e11 : (s.kind == 11) = false := by simpa using k11
  have e12 : (s.kind == 12) = false := by simpa using k12
  go_enter Try.func23, Try.ntmps23
  go_wp2_with (go_at_call 39; refine h3.out.mono ?_; rintro e w5 ⟨rfl, h5⟩; have h6 := h5.symm; clear h5; subst h6; clear h3)
  go_quiet (fail)
  go_wp2_with fail
  exact hfin.out _ (hW1.out.keep (below_drewN (Below.refl _ _) nq))
end Go.Proofs.Ytlolnpilpdkbkaa

namespace Go.Proofs.Ytlolnpilpdkbkaa
open Go.RowKit Go.Maps
set_option linter.unusedSimpArgs false
set_option linter.unusedVariables false

set_option maxRecDepth 100000 in
set_option maxHeartbeats 4000000 in
theorem asks3 (w0 w : World) (T : List (List Nat)) (hT : T.length ≤ 1048576) (gw : Nat) (P : Nat → Pl) (Ak : Option Addr) (ck : Nat) (K : List Kp) (hKl : K.length ≤ 1048576) (h : WS w0 T gw P Ak ck K w) (hE : Eqs P) (s : St) (hs : StOk w0 T s)
    (hk : s.kind = 3) :
    Calls Try.prog 23 #[.pointer (some ⟨gw, 0, none⟩), .agg (stepL s).toArray] w (AskP w0 T gw P K) := by
  obtain ⟨gs, hgs⟩ : ∃ gs, w.heap.size = gs := ⟨_, rfl⟩
  obtain ⟨w1, hw1⟩ : ∃ w1, w.alloc (.cells (stepL s).toArray 60) = w1 := ⟨_, rfl⟩
  have hB : Below w.heap.size w w1 := by rw [← hw1]; exact (Below.refl _ _).alloc (Nat.le_refl _) _
  have hW1 := Lib.hid (h.keep hB)
  have hS1 : Hid (SB gs s w1) := Lib.hid (by rw [← hw1, ← hgs]; exact heap_alloc_new w _)
  obtain ⟨i, hi⟩ : ∃ i, th s.on = i := ⟨_, rfl⟩
  have hi3 : i < 3 := by rw [← hi]; exact th_lt _
  have h3 := Lib.hid (three_any w1 s.on)
  rw [hi] at h3
  have hi3' := Lib.hid hi3
  have hi3i : (i : Int) < 3 := by omega
  obtain ⟨p, hp⟩ : ∃ p, P i = p := ⟨_, rfl⟩
  have hp' := Lib.hid hp
  have hEi : Hid (p.kp = p.kr) := Lib.hid (by rw [← hp]; exact hE i hi3)
  obtain ⟨Q, hQ⟩ : ∃ Q, AskP w0 T gw P K = Q := ⟨_, rfl⟩
  have hfin : Hid (∀ W, WS w0 T gw P Ak ck K W → Q (.returned (.bool true)) W) := Lib.hid fun W hW => by rw [← hQ]; exact ⟨rfl, Ak, ck, K, by omega, hW⟩
  have hQ' := Lib.hid hQ
  rw [hQ]
  have hs' := Lib.hid hs
  have hT' := Lib.hid hT
  have hKl' := Lib.hid hKl
  obtain ⟨vs, hvs⟩ : ∃ vs, (stepL s).toArray = vs := ⟨_, rfl⟩
  rw [hvs] at hw1 ⊢
  have c0 := hS1.out.c0
  have c1 := hS1.out.c1
  have d0 := hW1.out.cp hi3
  have d1 := hW1.out.cr hi3
  rw [hp] at d0 d1
  obtain ⟨vp, hvp⟩ : ∃ vp, pv p.o = vp := ⟨_, rfl⟩
  obtain ⟨q, hq⟩ : ∃ q, p.q = q := ⟨_, rfl⟩
  rw [hvp] at d0
  rw [hq] at d1
  have hvp' := Lib.hid hvp
  have hq' := Lib.hid hq
  have hi32 : Hid ((Try.prog.info? 25).map (·.size) = some 32) := Lib.hid (by kernel_rfl)
  have hzs : Hid ((u8s (zeros 32)).toArray.size = 32) := Lib.hid (by simp [u8s, zeros])
  have hzk := zeroKy
  have hkl : Hid (s.key.length = 32) := Lib.hid hs.key.1
  have hks : Hid ((u8s s.key).length = 32) := Lib.hid (by simp [u8s, hs.key.1])
  have hpl : Hid (∀ W, WS w0 T gw P Ak ck K W → PlAt w0 T p W) := Lib.hid fun W hW => by rw [← hp]; exact hW.pl i hi3
  have hH1 : Hid (∀ W, WS w0 T gw P Ak ck K W → Calls Try.prog 16 #[vp, .agg (u8s s.key).toArray] W fun e w' => e = .returned (.bool (decide (s.key ∈ p.kr))) ∧ Below W.heap.size W w') := Lib.hid fun W hW => by
    have := hasO_any W p.o p.kp (hpl.out W hW).set s.key hs'.out.key
    rw [hvp, hEi.out] at this
    exact this
  have hH2 : Hid (∀ W, WS w0 T gw P Ak ck K W → Calls Try.prog 40 #[.pointer (some ⟨q, 0, none⟩), .agg (u8s s.key).toArray] W fun e w' => e = .returned (.bool (decide (s.key ∈ p.kr))) ∧ Below W.heap.size W w') := Lib.hid fun W hW => by
    have hpw := hpl.out W hW
    have := rHas_any W p.q p.c p.A p.kr hpw.ref hpw.rise.ok (by have := hpw.lenR; omega) s.key hs'.out.key
    rw [hq] at this
    exact this
  generalize decide (s.key ∈ p.kr) = B at hH1 hH2
  clear h hE hs hT hKl hQ hB hvs hi hi3 hp hvp hq
  rw [hk] at c0
  go_enter Try.func23, Try.ntmps23
  go_wp2_with (go_at_call 39; refine h3.out.mono ?_; rintro e w5 ⟨rfl, h5⟩; have h6 := h5.symm; clear h5; subst h6; clear h3)
  go_quiet (fail)
  go_wp2_with fail
  have hW2 := Lib.hid (hW1.out.keep (below_drewN (Below.refl _ _) nq))
  have hS2 := Lib.hid (hS1.out.below (below_drewN (Below.refl _ _) nq))
  clear hW1 hS1 c0 c1 d0 d1
  generalize w1.drewN nq = w2 at hW2 hS2 ⊢
  have hd : Hid (SB gs s w2.drew) := Lib.hid (hS2.out.below (below_drewN (Below.refl _ _) 1))
  have whd : Hid (WS _ _ _ _ _ _ _ w2.drew) := Lib.hid (hW2.out.keep (below_drewN (Below.refl _ _) 1))
  refine wp_region_held (S := SB gs s) (by kernel_rfl) ?_
  change wpAnyH _ _ _ _ _ _ _ _ (World.drew _)
  refine tk (i := 0) (d := 39) (v := (vp)) rfl rfl (Or.inl ⟨by rfl, by intro W hW; clear hW; go_simp⟩) hd.out ?_
  simp only [List.setIfInBounds_toArray, List.set_cons_zero, List.set_cons_succ]
  refine tk (i := 1) (d := 40) (v := (.pointer (some ⟨gs, 3, none⟩))) rfl rfl (Or.inl ⟨by rfl, by intro W hW; clear hW; go_simp⟩) hd.out ?_
  simp only [List.setIfInBounds_toArray, List.set_cons_zero, List.set_cons_succ]
  refine tk (i := 2) (d := 41) (v := (.agg (u8s s.key).toArray)) rfl rfl (yieldsIf_load_mid (by rfl) 25 _ rfl gs 3 rfl (u8s s.key) _ (fun W hW => hW.rk hkl.out) Try.underlying25 rfl (by rw [hks.out]; exact hi32.out)) hd.out ?_
  simp only [List.setIfInBounds_toArray, List.set_cons_zero, List.set_cons_succ]
  refine tk (i := 4) (d := 43) (v := (.pointer (some ⟨q, 0, none⟩))) rfl rfl (Or.inl ⟨by rfl, by intro W hW; clear hW; go_simp⟩) hd.out ?_
  simp only [List.setIfInBounds_toArray, List.set_cons_zero, List.set_cons_succ]
  refine tk (i := 5) (d := 44) (v := (.pointer (some ⟨gs, 3, none⟩))) rfl rfl (Or.inl ⟨by rfl, by intro W hW; clear hW; go_simp⟩) hd.out ?_
  simp only [List.setIfInBounds_toArray, List.set_cons_zero, List.set_cons_succ]
  refine tk (i := 6) (d := 45) (v := (.agg (u8s s.key).toArray)) rfl rfl (yieldsIf_load_mid (by rfl) 25 _ rfl gs 3 rfl (u8s s.key) _ (fun W hW => hW.rk hkl.out) Try.underlying25 rfl (by rw [hks.out]; exact hi32.out)) hd.out ?_
  simp only [List.setIfInBounds_toArray, List.set_cons_zero, List.set_cons_succ]
  refine wpAnyH_ready (rs := [3]) (by kernel_rfl) (by simp) ?_
  refine AllReadyH.cons rfl (fun K hK => ?_) AllReadyH.nil
  go_simp
  refine (hH1.out _ whd.out).mono ?_
  rintro e v1 ⟨rfl, q1⟩
  have hd1 : Hid (SB gs s v1) := Lib.hid (hd.out.below q1)
  have whd1 := Lib.hid (whd.out.keep q1)
  clear q1
  refine hK.out _ _ hd1.out (fun _ => ?_)
  clear hK K
  refine wpAnyH_ready (rs := [7]) (by kernel_rfl) (by simp) ?_
  refine AllReadyH.cons rfl (fun K hK => ?_) AllReadyH.nil
  go_simp
  refine (hH2.out _ whd1.out).mono ?_
  rintro e v2 ⟨rfl, q2⟩
  have hd2 : Hid (SB gs s v2) := Lib.hid (hd1.out.below q2)
  have whd2 := Lib.hid (whd1.out.keep q2)
  clear q2
  refine hK.out _ _ hd2.out (fun _ => ?_)
  clear hK K
  refine tk (i := 8) (d := 47) (v := (.bool true)) rfl rfl (Or.inl ⟨by rfl, by intro W hW; clear hW; go_simp⟩) hd2.out ?_
  simp only [List.setIfInBounds_toArray, List.set_cons_zero, List.set_cons_succ]
  refine tk (i := 9) (d := 4) (v := (.bool true)) rfl rfl (Or.inl ⟨by rfl, by intro W hW; clear hW; go_simp⟩) hd2.out ?_
  simp only [List.setIfInBounds_toArray, List.set_cons_zero, List.set_cons_succ]
  refine wpAnyH_done (by kernel_rfl) ?_ _
  have hWz := whd2
  have hf := Lib.hid (hfin.out _ hWz.out)
  go_wp2_with fail
  exact hf.out
end Go.Proofs.Ytlolnpilpdkbkaa

namespace Go.Proofs.Ytlolnpilpdkbkaa
open Go.RowKit Go.Maps
set_option linter.unusedSimpArgs false
set_option linter.unusedVariables false

set_option maxRecDepth 100000 in
set_option maxHeartbeats 4000000 in
theorem asks5 (w0 w : World) (T : List (List Nat)) (hT : T.length ≤ 1048576) (gw : Nat) (P : Nat → Pl) (Ak : Option Addr) (ck : Nat) (K : List Kp) (hKl : K.length ≤ 1048576) (h : WS w0 T gw P Ak ck K w) (hE : Eqs P) (s : St) (hs : StOk w0 T s)
    (hk : s.kind = 5) :
    Calls Try.prog 23 #[.pointer (some ⟨gw, 0, none⟩), .agg (stepL s).toArray] w (AskP w0 T gw P K) := by
  obtain ⟨gs, hgs⟩ : ∃ gs, w.heap.size = gs := ⟨_, rfl⟩
  obtain ⟨w1, hw1⟩ : ∃ w1, w.alloc (.cells (stepL s).toArray 60) = w1 := ⟨_, rfl⟩
  have hB : Below w.heap.size w w1 := by rw [← hw1]; exact (Below.refl _ _).alloc (Nat.le_refl _) _
  have hW1 := Lib.hid (h.keep hB)
  have hS1 : Hid (SB gs s w1) := Lib.hid (by rw [← hw1, ← hgs]; exact heap_alloc_new w _)
  obtain ⟨i, hi⟩ : ∃ i, th s.on = i := ⟨_, rfl⟩
  have hi3 : i < 3 := by rw [← hi]; exact th_lt _
  have h3 := Lib.hid (three_any w1 s.on)
  rw [hi] at h3
  have hi3' := Lib.hid hi3
  have hi3i : (i : Int) < 3 := by omega
  obtain ⟨p, hp⟩ : ∃ p, P i = p := ⟨_, rfl⟩
  have hp' := Lib.hid hp
  have hEi : Hid (p.kp = p.kr) := Lib.hid (by rw [← hp]; exact hE i hi3)
  obtain ⟨Q, hQ⟩ : ∃ Q, AskP w0 T gw P K = Q := ⟨_, rfl⟩
  have hfin : Hid (∀ W, WS w0 T gw P Ak ck K W → Q (.returned (.bool true)) W) := Lib.hid fun W hW => by rw [← hQ]; exact ⟨rfl, Ak, ck, K, by omega, hW⟩
  have hQ' := Lib.hid hQ
  rw [hQ]
  have hs' := Lib.hid hs
  have hT' := Lib.hid hT
  have hKl' := Lib.hid hKl
  obtain ⟨vs, hvs⟩ : ∃ vs, (stepL s).toArray = vs := ⟨_, rfl⟩
  rw [hvs] at hw1 ⊢
  have c0 := hS1.out.c0
  have c1 := hS1.out.c1
  have d0 := hW1.out.cp hi3
  have d1 := hW1.out.cr hi3
  rw [hp] at d0 d1
  obtain ⟨vp, hvp⟩ : ∃ vp, pv p.o = vp := ⟨_, rfl⟩
  obtain ⟨q, hq⟩ : ∃ q, p.q = q := ⟨_, rfl⟩
  rw [hvp] at d0
  rw [hq] at d1
  have hvp' := Lib.hid hvp
  have hq' := Lib.hid hq
  have hi32 : Hid ((Try.prog.info? 25).map (·.size) = some 32) := Lib.hid (by kernel_rfl)
  have hzs : Hid ((u8s (zeros 32)).toArray.size = 32) := Lib.hid (by simp [u8s, zeros])
  have hzk := zeroKy
  have hkl : Hid (s.key.length = 32) := Lib.hid hs.key.1
  have hks : Hid ((u8s s.key).length = 32) := Lib.hid (by simp [u8s, hs.key.1])
  have hpl : Hid (∀ W, WS w0 T gw P Ak ck K W → PlAt w0 T p W) := Lib.hid fun W hW => by rw [← hp]; exact hW.pl i hi3
  obtain ⟨A, hA⟩ : ∃ A, p.A = A := ⟨_, rfl⟩
  obtain ⟨c, hc⟩ : ∃ c, p.c = c := ⟨_, rfl⟩
  obtain ⟨N, hN⟩ : ∃ N, p.kr.length = N := ⟨_, rfl⟩
  have hN' := Lib.hid hN
  have hRQ : Hid (∀ W, WS w0 T gw P Ak ck K W → RQ q A N c W) := Lib.hid fun W hW => by
    have := (hpl.out W hW).ref.1
    rw [hq, hA, hc, hN] at this
    exact this
  have hNT : Hid (N ≤ 1048576) := Lib.hid (by have := (hpl.out _ hW1.out).lenR; omega)
  have hH1 : Hid (∀ W, WS w0 T gw P Ak ck K W → Calls Try.prog 14 #[vp] W fun e w' => e = .returned (.int .i64 (N : Int)) ∧ Below W.heap.size W w') := Lib.hid fun W hW => by
    have := lenO_any W p.o p.kp (hpl.out W hW).set
    rw [hvp, hEi.out, hN] at this
    exact this.mono fun e w' ⟨a, b⟩ => ⟨a, b ▸ Below.refl _ _⟩
  clear hN hA hc
  clear h hE hs hT hKl hQ hB hvs hi hi3 hp hvp hq
  rw [hk] at c0
  go_enter Try.func23, Try.ntmps23
  go_wp2_with (go_at_call 39; refine h3.out.mono ?_; rintro e w5 ⟨rfl, h5⟩; have h6 := h5.symm; clear h5; subst h6; clear h3)
  go_quiet (fail)
  go_wp2_with fail
  have hW2 := Lib.hid (hW1.out.keep (below_drewN (Below.refl _ _) nq))
  have hS2 := Lib.hid (hS1.out.below (below_drewN (Below.refl _ _) nq))
  clear hW1 hS1 c0 c1 d0 d1
  generalize w1.drewN nq = w2 at hW2 hS2 ⊢
  have hd : Hid (RQ q A N c w2.drew) := Lib.hid ((hRQ.out _ hW2.out).below (below_drewN (Below.refl _ _) 1))
  have whd : Hid (WS _ _ _ _ _ _ _ w2.drew) := Lib.hid (hW2.out.keep (below_drewN (Below.refl _ _) 1))
  refine wp_region_held (S := RQ q A N c) (by kernel_rfl) ?_
  change wpAnyH _ _ _ _ _ _ _ _ (World.drew _)
  refine tk (i := 0) (d := 50) (v := (vp)) rfl rfl (Or.inl ⟨by rfl, by intro W hW; clear hW; go_simp⟩) hd.out ?_
  simp only [List.setIfInBounds_toArray, List.set_cons_zero, List.set_cons_succ]
  refine tk (i := 2) (d := 52) (v := (.pointer (some ⟨q, 0, none⟩))) rfl rfl (Or.inl ⟨by rfl, by intro W hW; clear hW; go_simp⟩) hd.out ?_
  simp only [List.setIfInBounds_toArray, List.set_cons_zero, List.set_cons_succ]
  refine tk (i := 3) (d := 53) (v := (.pointer (some ⟨q, 0, none⟩))) rfl rfl (Or.inl ⟨by rfl, by intro W hW; clear hW; go_simp⟩) hd.out ?_
  simp only [List.setIfInBounds_toArray, List.set_cons_zero, List.set_cons_succ]
  refine tk (i := 4) (d := 54) (v := (.pointer (some ⟨q, 0, none⟩))) rfl rfl (Or.inl ⟨by rfl, by intro W hW; clear hW; go_simp⟩) hd.out ?_
  simp only [List.setIfInBounds_toArray, List.set_cons_zero, List.set_cons_succ]
  refine tk (i := 5) (d := 55) (v := (.slice A N c)) rfl rfl (Or.inl ⟨by rfl, by intro W hW; have c0 := RQ.cel hW; clear hW; go_simp⟩) hd.out ?_
  simp only [List.setIfInBounds_toArray, List.set_cons_zero, List.set_cons_succ]
  refine tk (i := 6) (d := 56) (v := (.int .i64 (N : Int))) rfl rfl (Or.inl ⟨by rfl, by intro W hW; clear hW; go_simp⟩) hd.out ?_
  simp only [List.setIfInBounds_toArray, List.set_cons_zero, List.set_cons_succ]
  refine wpAnyH_ready (rs := [1]) (by kernel_rfl) (by simp) ?_
  refine AllReadyH.cons rfl (fun K hK => ?_) AllReadyH.nil
  go_simp
  refine (hH1.out _ whd.out).mono ?_
  rintro e v1 ⟨rfl, q1⟩
  have hd1 : Hid (RQ q A N c v1) := Lib.hid (hd.out.below q1)
  have whd1 := Lib.hid (whd.out.keep q1)
  clear q1
  refine hK.out _ _ hd1.out (fun _ => ?_)
  clear hK K
  refine tk (i := 7) (d := 57) (v := (.bool true)) rfl rfl (Or.inl ⟨by rfl, by intro W hW; clear hW; go_simp⟩) hd1.out ?_
  simp only [List.setIfInBounds_toArray, List.set_cons_zero, List.set_cons_succ]
  refine tk (i := 8) (d := 4) (v := (.bool true)) rfl rfl (Or.inl ⟨by rfl, by intro W hW; clear hW; go_simp⟩) hd1.out ?_
  simp only [List.setIfInBounds_toArray, List.set_cons_zero, List.set_cons_succ]
  refine wpAnyH_done (by kernel_rfl) ?_ _
  have hWz := whd1
  have hf := Lib.hid (hfin.out _ hWz.out)
  go_wp2_with fail
  exact hf.out
end Go.Proofs.Ytlolnpilpdkbkaa

namespace Go.Proofs.Ytlolnpilpdkbkaa
open Go.RowKit Go.Maps
set_option linter.unusedSimpArgs false
set_option linter.unusedVariables false

set_option maxRecDepth 100000 in
set_option maxHeartbeats 4000000 in
theorem asks6 (w0 w : World) (T : List (List Nat)) (hT : T.length ≤ 1048576) (gw : Nat) (P : Nat → Pl) (Ak : Option Addr) (ck : Nat) (K : List Kp) (hKl : K.length ≤ 1048576) (h : WS w0 T gw P Ak ck K w) (hE : Eqs P) (s : St) (hs : StOk w0 T s)
    (hk : s.kind = 6) :
    Calls Try.prog 23 #[.pointer (some ⟨gw, 0, none⟩), .agg (stepL s).toArray] w (AskP w0 T gw P K) := by
  obtain ⟨gs, hgs⟩ : ∃ gs, w.heap.size = gs := ⟨_, rfl⟩
  obtain ⟨w1, hw1⟩ : ∃ w1, w.alloc (.cells (stepL s).toArray 60) = w1 := ⟨_, rfl⟩
  have hB : Below w.heap.size w w1 := by rw [← hw1]; exact (Below.refl _ _).alloc (Nat.le_refl _) _
  have hW1 := Lib.hid (h.keep hB)
  have hS1 : Hid (SB gs s w1) := Lib.hid (by rw [← hw1, ← hgs]; exact heap_alloc_new w _)
  obtain ⟨i, hi⟩ : ∃ i, th s.on = i := ⟨_, rfl⟩
  have hi3 : i < 3 := by rw [← hi]; exact th_lt _
  have h3 := Lib.hid (three_any w1 s.on)
  rw [hi] at h3
  have hi3' := Lib.hid hi3
  have hi3i : (i : Int) < 3 := by omega
  obtain ⟨p, hp⟩ : ∃ p, P i = p := ⟨_, rfl⟩
  have hp' := Lib.hid hp
  have hEi : Hid (p.kp = p.kr) := Lib.hid (by rw [← hp]; exact hE i hi3)
  obtain ⟨Q, hQ⟩ : ∃ Q, AskP w0 T gw P K = Q := ⟨_, rfl⟩
  have hfin : Hid (∀ W, WS w0 T gw P Ak ck K W → Q (.returned (.bool true)) W) := Lib.hid fun W hW => by rw [← hQ]; exact ⟨rfl, Ak, ck, K, by omega, hW⟩
  have hQ' := Lib.hid hQ
  rw [hQ]
  have hs' := Lib.hid hs
  have hT' := Lib.hid hT
  have hKl' := Lib.hid hKl
  obtain ⟨vs, hvs⟩ : ∃ vs, (stepL s).toArray = vs := ⟨_, rfl⟩
  rw [hvs] at hw1 ⊢
  have c0 := hS1.out.c0
  have c1 := hS1.out.c1
  have d0 := hW1.out.cp hi3
  have d1 := hW1.out.cr hi3
  rw [hp] at d0 d1
  obtain ⟨vp, hvp⟩ : ∃ vp, pv p.o = vp := ⟨_, rfl⟩
  obtain ⟨q, hq⟩ : ∃ q, p.q = q := ⟨_, rfl⟩
  rw [hvp] at d0
  rw [hq] at d1
  have hvp' := Lib.hid hvp
  have hq' := Lib.hid hq
  have hi32 : Hid ((Try.prog.info? 25).map (·.size) = some 32) := Lib.hid (by kernel_rfl)
  have hzs : Hid ((u8s (zeros 32)).toArray.size = 32) := Lib.hid (by simp [u8s, zeros])
  have hzk := zeroKy
  have hkl : Hid (s.key.length = 32) := Lib.hid hs.key.1
  have hks : Hid ((u8s s.key).length = 32) := Lib.hid (by simp [u8s, hs.key.1])
  have hpl : Hid (∀ W, WS w0 T gw P Ak ck K W → PlAt w0 T p W) := Lib.hid fun W hW => by rw [← hp]; exact hW.pl i hi3
  obtain ⟨r, hr⟩ : ∃ r, (p.kr.find? (passK s.any s.key)).getD (zeros 32) = r := ⟨_, rfl⟩
  obtain ⟨F, hF⟩ : ∃ F, (p.kr.find? (passK s.any s.key)).isSome = F := ⟨_, rfl⟩
  have hrl : r.length = 32 := by rw [← hr]; exact find_len p.kr (hpl.out _ hW1.out).rise.ok _ _
  have hrs : Hid ((u8s r).toArray.size = 32) := Lib.hid (by simp [u8s, hrl])
  have hcmp : ∀ W, (binOp .eql 25 (.agg (u8s r).toArray) (.agg (u8s r).toArray)).run Try.prog W = .ok (.bool true) W := fun W => by
    have := eqK hrl hrl W
    rwa [decide_eq_true rfl] at this
  have hH1 : Hid (∀ W, WS w0 T gw P Ak ck K W → Calls Try.prog 17 #[vp, .agg (u8s s.key).toArray, .bool s.any] W fun e w' => e = .returned (.tuple #[.agg (u8s r).toArray, .bool F]) ∧ Below W.heap.size W w') := Lib.hid fun W hW => by
    have := nextO_any W p.o p.kp (hpl.out W hW).set s.any s.key hs'.out.key
    unfold NextK at this
    rw [hvp, hEi.out, hr, hF] at this
    exact this
  have hH2 : Hid (∀ W, WS w0 T gw P Ak ck K W → Calls Try.prog 41 #[.pointer (some ⟨q, 0, none⟩), .agg (u8s s.key).toArray, .bool s.any] W fun e w' => e = .returned (.tuple #[.agg (u8s r).toArray, .bool F]) ∧ Below W.heap.size W w') := Lib.hid fun W hW => by
    have hpw := hpl.out W hW
    have := rNext_any W p.q p.c p.A p.kr hpw.ref hpw.rise.ok (by have := hpw.lenR; omega) s.key hs'.out.key s.any
    unfold NextK at this
    rw [hq, hr, hF] at this
    exact this
  clear hr hF hrl
  clear h hE hs hT hKl hQ hB hvs hi hi3 hp hvp hq
  go_enter Try.func23, Try.ntmps23
  go_wp2_with (go_at_call 39; refine h3.out.mono ?_; rintro e w5 ⟨rfl, h5⟩; have h6 := h5.symm; clear h5; subst h6; clear h3)
  go_quiet (fail)
  have hW2 := Lib.hid (hW1.out.keep (below_drewN (Below.refl _ _) nq))
  have hS2 := Lib.hid (hS1.out.below (below_drewN (Below.refl _ _) nq))
  clear hW1 hS1 c0 c1 d0 d1
  generalize w1.drewN nq = w2 at hW2 hS2 ⊢
  have c0 := hS2.out.c0
  rw [hk] at c0
  have c36 := hS2.out.c36 hkl.out
  have c37 := hS2.out.c37 hkl.out
  go_wp2_with (first
    | (refine wpList_load_mid rfl 25 _ rfl gs 3 rfl (u8s s.key) _ (hS2.out.rk hkl.out) Try.underlying25 rfl (by rw [hks.out]; exact hi32.out) ?_)
    | (go_at_call 17; refine (hH1.out _ hW2.out).mono ?_; rintro e w3 ⟨rfl, b⟩; have hW3 := Lib.hid (hW2.out.keep b); have hS3 := Lib.hid (hS2.out.below b); have c36 := hS3.out.c36 hkl.out; have c37 := hS3.out.c37 hkl.out; clear b hH1)
    | (refine wpList_store_row rfl 25 _ _ rfl w3.heap.size (u8s r).toArray rfl rfl 25 _ (heap_alloc_new w3 _) (by rw [hrs.out]; exact hi32.out) (by rw [hrs.out, hzs.out]) (all_oneCell_toArray u8s_one) ?_
       have hkn := key_new w3 r
       have hW4 := Lib.hid (hW3.out.keep hkn.2)
       have hS4 := Lib.hid (hS3.out.below hkn.2)
       have hK4 := Lib.hid hkn.1
       clear hkn
       have c36 := hS4.out.c36 hkl.out
       have c37 := hS4.out.c37 hkl.out
       generalize ((w3.alloc (.cells (u8s (zeros 32)).toArray 25)).setRow w3.heap.size (u8s r).toArray) = w4 at hW4 hS4 hK4 c36 c37 ⊢
       generalize w3.heap.size = g8 at hK4 ⊢)
    | (refine wpList_load_mid rfl 25 _ rfl gs 3 rfl (u8s s.key) _ (hS4.out.rk hkl.out) Try.underlying25 rfl (by rw [hks.out]; exact hi32.out) ?_)
    | (go_at_call 41; refine (hH2.out _ hW4.out).mono ?_; rintro e w5 ⟨rfl, b⟩; have hW5 := Lib.hid (hW4.out.keep b); have hK45 := Lib.hid (BlkY.below hK4.out b); have hS5 := Lib.hid (hS4.out.below b); have c36 := hS5.out.c36 hkl.out; have c37 := hS5.out.c37 hkl.out; clear b hH2)
    | (refine wpList_store_row rfl 25 _ _ rfl w5.heap.size (u8s r).toArray rfl rfl 25 _ (heap_alloc_new w5 _) (by rw [hrs.out]; exact hi32.out) (by rw [hrs.out, hzs.out]) (all_oneCell_toArray u8s_one) ?_
       have hkn := key_new w5 r
       have hW6 := Lib.hid (hW5.out.keep hkn.2)
       have hK48 := Lib.hid (BlkY.below hK45.out hkn.2)
       have hS6 := Lib.hid (hS5.out.below hkn.2)
       have hK6 := Lib.hid hkn.1
       clear hkn
       have c36 := hS6.out.c36 hkl.out
       have c37 := hS6.out.c37 hkl.out
       generalize ((w5.alloc (.cells (u8s (zeros 32)).toArray 25)).setRow w5.heap.size (u8s r).toArray) = w6 at hW6 hS6 hK6 hK48 c36 c37 ⊢
       generalize w5.heap.size = g10 at hK6 ⊢)
    | (refine wpList_load_row rfl 25 _ rfl g8 rfl 25 (u8s r).toArray (0, 0) _ hK48.out Try.underlying25 rfl (by rw [hrs.out]; exact hi32.out) ?_)
    | (refine wpList_load_row rfl 25 _ rfl g10 rfl 25 (u8s r).toArray (0, 0) _ hK6.out Try.underlying25 rfl (by rw [hrs.out]; exact hi32.out) ?_))
  have hf := Lib.hid (hfin.out _ hW6.out)
  go_wp2_with fail
  exact hf.out
end Go.Proofs.Ytlolnpilpdkbkaa
