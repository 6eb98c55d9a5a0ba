/- KeySets: asks, kind 7. (Printed by tools/genak.py.) KeySets: asks, kind 11. (Printed by tools/genak.py.) KeySets: asks, kind 12. (Printed by tools/genak.py.) -/
import Derived.Test.YtlolnpilpdkbkaaPkA30

namespace Go.Proofs.Ytlolnpilpdkbkaa
open Go.RowKit Go.Maps
set_option linter.unusedSimpArgs false
set_option linter.unusedVariables false

set_option maxRecDepth 100000 in
set_option maxHeartbeats 4000000 in
theorem asks7 (w0 w : World) (T : List (List Nat)) (hT : T.length ≤ 1048576) (gw : Nat) (P : Nat → Pl) (Ak : Option Addr) (ck : Nat) (K : List Kp) (hKl : K.length ≤ 1048576) (h : WS w0 T gw P Ak ck K w) (hE : Eqs P) (s : St) (hs : StOk w0 T s)
    (hk : s.kind = 7) :
    Calls Try.prog 23 #[.pointer (some ⟨gw, 0, none⟩), .agg (stepL s).toArray] w (AskP w0 T gw P K) := by
  obtain ⟨gs, hgs⟩ : ∃ gs, w.heap.size = gs := ⟨_, rfl⟩
  obtain ⟨w1, hw1⟩ : ∃ w1, w.alloc (.cells (stepL s).toArray 60) = w1 := ⟨_, rfl⟩
  have hB : Below w.heap.size w w1 := by rw [← hw1]; exact (Below.refl _ _).alloc (Nat.le_refl _) _
  have hW1 := Lib.hid (h.keep hB)
  have hS1 : Hid (SB gs s w1) := Lib.hid (by rw [← hw1, ← hgs]; exact heap_alloc_new w _)
  obtain ⟨i, hi⟩ : ∃ i, th s.on = i := ⟨_, rfl⟩
  have hi3 : i < 3 := by rw [← hi]; exact th_lt _
  have h3 := Lib.hid (three_any w1 s.on)
  rw [hi] at h3
  have hi3' := Lib.hid hi3
  have hi3i : (i : Int) < 3 := by omega
  obtain ⟨p, hp⟩ : ∃ p, P i = p := ⟨_, rfl⟩
  have hp' := Lib.hid hp
  have hEi : Hid (p.kp = p.kr) := Lib.hid (by rw [← hp]; exact hE i hi3)
  obtain ⟨Q, hQ⟩ : ∃ Q, AskP w0 T gw P K = Q := ⟨_, rfl⟩
  have hfin : Hid (∀ W, WS w0 T gw P Ak ck K W → Q (.returned (.bool true)) W) := Lib.hid fun W hW => by rw [← hQ]; exact ⟨rfl, Ak, ck, K, by omega, hW⟩
  have hQ' := Lib.hid hQ
  rw [hQ]
  have hs' := Lib.hid hs
  have hT' := Lib.hid hT
  have hKl' := Lib.hid hKl
  obtain ⟨vs, hvs⟩ : ∃ vs, (stepL s).toArray = vs := ⟨_, rfl⟩
  rw [hvs] at hw1 ⊢
  have c0 := hS1.out.c0
  have c1 := hS1.out.c1
  have d0 := hW1.out.cp hi3
  have d1 := hW1.out.cr hi3
  rw [hp] at d0 d1
  obtain ⟨vp, hvp⟩ : ∃ vp, pv p.o = vp := ⟨_, rfl⟩
  obtain ⟨q, hq⟩ : ∃ q, p.q = q := ⟨_, rfl⟩
  rw [hvp] at d0
  rw [hq] at d1
  have hvp' := Lib.hid hvp
  have hq' := Lib.hid hq
  have hi32 : Hid ((Try.prog.info? 25).map (·.size) = some 32) := Lib.hid (by kernel_rfl)
  have hzs : Hid ((u8s (zeros 32)).toArray.size = 32) := Lib.hid (by simp [u8s, zeros])
  have hzk := zeroKy
  have hkl : Hid (s.key.length = 32) := Lib.hid hs.key.1
  have hks : Hid ((u8s s.key).length = 32) := Lib.hid (by simp [u8s, hs.key.1])
  have hpl : Hid (∀ W, WS w0 T gw P Ak ck K W → PlAt w0 T p W) := Lib.hid fun W hW => by rw [← hp]; exact hW.pl i hi3
  obtain ⟨A, hA⟩ : ∃ A, p.A = A := ⟨_, rfl⟩
  obtain ⟨c, hc⟩ : ∃ c, p.c = c := ⟨_, rfl⟩
  obtain ⟨N, hN⟩ : ∃ N, p.kr.length = N := ⟨_, rfl⟩
  have hN' := Lib.hid hN
  have hRQ : Hid (∀ W, WS w0 T gw P Ak ck K W → RQ q A N c W) := Lib.hid fun W hW => by
    have := (hpl.out W hW).ref.1
    rw [hq, hA, hc, hN] at this
    exact this
  have hNT : Hid (N ≤ 1048576) := Lib.hid (by have := (hpl.out _ hW1.out).lenR; omega)
  have hH1 : Hid (∀ W, WS w0 T gw P Ak ck K W → Calls Try.prog 26 #[vp] W (AllP W p.kr)) := Lib.hid fun W hW => by
    have hpw := hpl.out W hW
    have := allO_any W p.o p.kp hpw.set (by have := hpw.lenP; have := hT'.out; omega)
    rw [hvp, hEi.out] at this
    exact this
  have hH2 : Hid (∀ W gI cI AI, WS w0 T gw P Ak ck K W → AllAt W gI AI cI p.kr → Calls Try.prog 25 #[.agg #[.func (.func 53) #[] #[.pointer (some ⟨gI, 0, none⟩)], .slice A N c]] W fun e w' => e = .returned (.bool true) ∧ Below W.heap.size W w') := Lib.hid fun W gI cI AI hW hat => by
    have hpw := hpl.out W hW
    have := tells_any W gI cI AI p.kr hat hpw.rise (by have := hpw.lenR; have := hT'.out; omega) p.A p.c hpw.ref.2
    rw [hA, hc, hN] at this
    exact this
  clear hN hA hc
  clear h hE hs hT hKl hQ hB hvs hi hi3 hp hvp hq
  rw [hk] at c0
  go_enter Try.func23, Try.ntmps23
  go_wp2_with (go_at_call 39; refine h3.out.mono ?_; rintro e w5 ⟨rfl, h5⟩; have h6 := h5.symm; clear h5; subst h6; clear h3)
  go_quiet (fail)
  go_wp2_with fail
  have hW2 := Lib.hid (hW1.out.keep (below_drewN (Below.refl _ _) nq))
  have hS2 := Lib.hid (hS1.out.below (below_drewN (Below.refl _ _) nq))
  clear hW1 hS1 c0 c1 d0 d1
  generalize w1.drewN nq = w2 at hW2 hS2 ⊢
  have hd : Hid (RQ q A N c w2.drew) := Lib.hid ((hRQ.out _ hW2.out).below (below_drewN (Below.refl _ _) 1))
  have whd : Hid (WS _ _ _ _ _ _ _ w2.drew) := Lib.hid (hW2.out.keep (below_drewN (Below.refl _ _) 1))
  refine wp_region_held (S := RQ q A N c) (by kernel_rfl) ?_
  change wpAnyH _ _ _ _ _ _ _ _ (World.drew _)
  refine tk (i := 0) (d := 88) (v := (vp)) rfl rfl (Or.inl ⟨by rfl, by intro W hW; clear hW; go_simp⟩) hd.out ?_
  simp only [List.setIfInBounds_toArray, List.set_cons_zero, List.set_cons_succ]
  refine tk (i := 2) (d := 90) (v := (.pointer (some ⟨q, 0, none⟩))) rfl rfl (Or.inl ⟨by rfl, by intro W hW; clear hW; go_simp⟩) hd.out ?_
  simp only [List.setIfInBounds_toArray, List.set_cons_zero, List.set_cons_succ]
  refine tk (i := 3) (d := 91) (v := (.pointer (some ⟨q, 0, none⟩))) rfl rfl (Or.inl ⟨by rfl, by intro W hW; clear hW; go_simp⟩) hd.out ?_
  simp only [List.setIfInBounds_toArray, List.set_cons_zero, List.set_cons_succ]
  refine tk (i := 4) (d := 92) (v := (.pointer (some ⟨q, 0, none⟩))) rfl rfl (Or.inl ⟨by rfl, by intro W hW; clear hW; go_simp⟩) hd.out ?_
  simp only [List.setIfInBounds_toArray, List.set_cons_zero, List.set_cons_succ]
  refine tk (i := 5) (d := 93) (v := (.slice A N c)) rfl rfl (Or.inl ⟨by rfl, by intro W hW; have c0 := RQ.cel hW; clear hW; go_simp⟩) hd.out ?_
  simp only [List.setIfInBounds_toArray, List.set_cons_zero, List.set_cons_succ]
  refine wpAnyH_ready (rs := [1]) (by kernel_rfl) (by simp) ?_
  refine AllReadyH.cons rfl (fun K hK => ?_) AllReadyH.nil
  go_simp
  refine (hH1.out _ whd.out).mono ?_
  rintro e v1 ⟨gI, AI, cI, rfl, hat, q1, hlg, hlA⟩
  have hd1 : Hid (RQ q A N c v1) := Lib.hid (hd.out.below q1)
  have whd1 := Lib.hid (whd.out.keep q1)
  have hat1 := Lib.hid hat
  have hbk := Lib.hid (bldKept gI A N c)
  clear q1 hat hlg hlA
  refine hK.out _ _ hd1.out (fun _ => ?_)
  clear hK K
  refine tk (i := 6) (d := 94) (v := (.agg #[.func (.func 53) #[] #[.pointer (some ⟨gI, 0, none⟩)], .slice A N c])) rfl rfl (yieldsIf_bld (by rfl) 63 _ rfl #[(0, .func (.func 53) #[] #[.pointer (some ⟨gI, 0, none⟩)]), (1, .slice A N c)] (by rw [List.map_toArray]; rfl) _ hbk.out) hd1.out ?_
  simp only [List.setIfInBounds_toArray, List.set_cons_zero, List.set_cons_succ]
  refine wpAnyH_ready (rs := [7]) (by kernel_rfl) (by simp) ?_
  refine AllReadyH.cons rfl (fun K hK => ?_) AllReadyH.nil
  go_simp
  refine (hH2.out _ gI cI AI whd1.out hat1.out).mono ?_
  rintro e v2 ⟨rfl, q2⟩
  have hd2 : Hid (RQ q A N c v2) := Lib.hid (hd1.out.below q2)
  have whd2 := Lib.hid (whd1.out.keep q2)
  clear q2
  refine hK.out _ _ hd2.out (fun _ => ?_)
  clear hK K
  refine tk (i := 8) (d := 4) (v := (.bool true)) rfl rfl (Or.inl ⟨by rfl, by intro W hW; clear hW; go_simp⟩) hd2.out ?_
  simp only [List.setIfInBounds_toArray, List.set_cons_zero, List.set_cons_succ]
  refine wpAnyH_done (by kernel_rfl) ?_ _
  have hWz := whd2
  have hf := Lib.hid (hfin.out _ hWz.out)
  go_wp2_with fail
  exact hf.out
end Go.Proofs.Ytlolnpilpdkbkaa

namespace Go.Proofs.Ytlolnpilpdkbkaa
open Go.RowKit Go.Maps
set_option linter.unusedSimpArgs false
set_option linter.unusedVariables false

set_option maxRecDepth 100000 in
set_option maxHeartbeats 4000000 in
theorem asks11 (w0 w : World) (T : List (List Nat)) (hT : T.length ≤ 1048576) (gw : Nat) (P : Nat → Pl) (Ak : Option Addr) (ck : Nat) (K : List Kp) (hKl : K.length ≤ 1048576) (h : WS w0 T gw P Ak ck K w) (hE : Eqs P) (s : St) (hs : StOk w0 T s)
    (hk : s.kind = 11) :
    Calls Try.prog 23 #[.pointer (some ⟨gw, 0, none⟩), .agg (stepL s).toArray] w (AskP w0 T gw P K) := by
  obtain ⟨gs, hgs⟩ : ∃ gs, w.heap.size = gs := ⟨_, rfl⟩
  obtain ⟨w1, hw1⟩ : ∃ w1, w.alloc (.cells (stepL s).toArray 60) = w1 := ⟨_, rfl⟩
  have hB : Below w.heap.size w w1 := by rw [← hw1]; exact (Below.refl _ _).alloc (Nat.le_refl _) _
  have hW1 := Lib.hid (h.keep hB)
  have hS1 : Hid (SB gs s w1) := Lib.hid (by rw [← hw1, ← hgs]; exact heap_alloc_new w _)
  obtain ⟨i, hi⟩ : ∃ i, th s.on = i := ⟨_, rfl⟩
  have hi3 : i < 3 := by rw [← hi]; exact th_lt _
  have h3 := Lib.hid (three_any w1 s.on)
  rw [hi] at h3
  have hi3' := Lib.hid hi3
  have hi3i : (i : Int) < 3 := by omega
  obtain ⟨p, hp⟩ : ∃ p, P i = p := ⟨_, rfl⟩
  have hp' := Lib.hid hp
  have hEi : Hid (p.kp = p.kr) := Lib.hid (by rw [← hp]; exact hE i hi3)
  obtain ⟨Q, hQ⟩ : ∃ Q, AskP w0 T gw P K = Q := ⟨_, rfl⟩
  have hfin : Hid (∀ W, WS w0 T gw P Ak ck K W → Q (.returned (.bool true)) W) := Lib.hid fun W hW => by rw [← hQ]; exact ⟨rfl, Ak, ck, K, by omega, hW⟩
  have hQ' := Lib.hid hQ
  rw [hQ]
  have hs' := Lib.hid hs
  have hT' := Lib.hid hT
  have hKl' := Lib.hid hKl
  obtain ⟨vs, hvs⟩ : ∃ vs, (stepL s).toArray = vs := ⟨_, rfl⟩
  rw [hvs] at hw1 ⊢
  have c0 := hS1.out.c0
  have c1 := hS1.out.c1
  have d0 := hW1.out.cp hi3
  have d1 := hW1.out.cr hi3
  rw [hp] at d0 d1
  obtain ⟨vp, hvp⟩ : ∃ vp, pv p.o = vp := ⟨_, rfl⟩
  obtain ⟨q, hq⟩ : ∃ q, p.q = q := ⟨_, rfl⟩
  rw [hvp] at d0
  rw [hq] at d1
  have hvp' := Lib.hid hvp
  have hq' := Lib.hid hq
  have hi32 : Hid ((Try.prog.info? 25).map (·.size) = some 32) := Lib.hid (by kernel_rfl)
  have hzs : Hid ((u8s (zeros 32)).toArray.size = 32) := Lib.hid (by simp [u8s, zeros])
  have hzk := zeroKy
  have hkl : Hid (s.key.length = 32) := Lib.hid hs.key.1
  have hks : Hid ((u8s s.key).length = 32) := Lib.hid (by simp [u8s, hs.key.1])
  have hpl : Hid (∀ W, WS w0 T gw P Ak ck K W → PlAt w0 T p W) := Lib.hid fun W hW => by rw [← hp]; exact hW.pl i hi3
  obtain ⟨r, hr⟩ : ∃ r, (findQ p.kr s.pre.data.toList).1 = r := ⟨_, rfl⟩
  obtain ⟨F, hF⟩ : ∃ F, (findQ p.kr s.pre.data.toList).2 = F := ⟨_, rfl⟩
  have hrl : r.length = 32 := by rw [← hr]; exact findQ_len p.kr (hpl.out _ hW1.out).rise.ok _
  have hrs : Hid ((u8s r).toArray.size = 32) := Lib.hid (by simp [u8s, hrl])
  have hcmp : ∀ W, (binOp .eql 25 (.agg (u8s r).toArray) (.agg (u8s r).toArray)).run Try.prog W = .ok (.bool true) W := fun W => by
    have := eqK hrl hrl W
    rwa [decide_eq_true rfl] at this
  have hH1 : Hid (∀ W, WS w0 T gw P Ak ck K W → Calls Try.prog 19 #[vp, .string s.pre] W fun e w' => e = .returned (.tuple #[.agg (u8s r).toArray, .int .i64 (F : Int)]) ∧ Below W.heap.size W w') := Lib.hid fun W hW => by
    have hpw := hpl.out W hW
    have := findO_any W p.o p.kp hpw.set (by have := hpw.lenP; have := hT'.out; omega) s.pre (by have := hs'.out.pre; omega)
    unfold FindP at this
    rw [hvp, hEi.out, hr, hF] at this
    exact this
  have hH2 : Hid (∀ W, WS w0 T gw P Ak ck K W → Calls Try.prog 42 #[.pointer (some ⟨q, 0, none⟩), .string s.pre] W fun e w' => e = .returned (.tuple #[.agg (u8s r).toArray, .int .i64 (F : Int)]) ∧ Below W.heap.size W w') := Lib.hid fun W hW => by
    have hpw := hpl.out W hW
    have := rFind_any W p.q p.c p.A p.kr hpw.ref hpw.rise.ok (by have := hpw.lenR; have := hT'.out; omega) s.pre (by have := hs'.out.pre; omega)
    unfold FindP at this
    rw [hq, hr, hF] at this
    exact this
  clear hr hF hrl
  clear h hE hs hT hKl hQ hB hvs hi hi3 hp hvp hq
  go_enter Try.func23, Try.ntmps23
  go_wp2_with (go_at_call 39; refine h3.out.mono ?_; rintro e w5 ⟨rfl, h5⟩; have h6 := h5.symm; clear h5; subst h6; clear h3)
  go_quiet (fail)
  have hW2 := Lib.hid (hW1.out.keep (below_drewN (Below.refl _ _) nq))
  have hS2 := Lib.hid (hS1.out.below (below_drewN (Below.refl _ _) nq))
  clear hW1 hS1 c0 c1 d0 d1
  generalize w1.drewN nq = w2 at hW2 hS2 ⊢
  have c0 := hS2.out.c0
  rw [hk] at c0
  have c36 := hS2.out.c36 hkl.out
  have c37 := hS2.out.c37 hkl.out
  go_wp2_with (first
    | (go_at_call 19; refine (hH1.out _ hW2.out).mono ?_; rintro e w3 ⟨rfl, b⟩; have hW3 := Lib.hid (hW2.out.keep b); have hS3 := Lib.hid (hS2.out.below b); have c36 := hS3.out.c36 hkl.out; have c37 := hS3.out.c37 hkl.out; clear b hH1)
    | (refine wpList_store_row rfl 25 _ _ rfl w3.heap.size (u8s r).toArray rfl rfl 25 _ (heap_alloc_new w3 _) (by rw [hrs.out]; exact hi32.out) (by rw [hrs.out, hzs.out]) (all_oneCell_toArray u8s_one) ?_
       have hkn := key_new w3 r
       have hW4 := Lib.hid (hW3.out.keep hkn.2)
       have hS4 := Lib.hid (hS3.out.below hkn.2)
       have hK4 := Lib.hid hkn.1
       clear hkn
       have c36 := hS4.out.c36 hkl.out
       have c37 := hS4.out.c37 hkl.out
       generalize ((w3.alloc (.cells (u8s (zeros 32)).toArray 25)).setRow w3.heap.size (u8s r).toArray) = w4 at hW4 hS4 hK4 c36 c37 ⊢
       generalize w3.heap.size = g8 at hK4 ⊢)
    | (go_at_call 42; refine (hH2.out _ hW4.out).mono ?_; rintro e w5 ⟨rfl, b⟩; have hW5 := Lib.hid (hW4.out.keep b); have hK45 := Lib.hid (BlkY.below hK4.out b); have hS5 := Lib.hid (hS4.out.below b); have c36 := hS5.out.c36 hkl.out; have c37 := hS5.out.c37 hkl.out; clear b hH2)
    | (refine wpList_store_row rfl 25 _ _ rfl w5.heap.size (u8s r).toArray rfl rfl 25 _ (heap_alloc_new w5 _) (by rw [hrs.out]; exact hi32.out) (by rw [hrs.out, hzs.out]) (all_oneCell_toArray u8s_one) ?_
       have hkn := key_new w5 r
       have hW6 := Lib.hid (hW5.out.keep hkn.2)
       have hK48 := Lib.hid (BlkY.below hK45.out hkn.2)
       have hS6 := Lib.hid (hS5.out.below hkn.2)
       have hK6 := Lib.hid hkn.1
       clear hkn
       have c36 := hS6.out.c36 hkl.out
       have c37 := hS6.out.c37 hkl.out
       generalize ((w5.alloc (.cells (u8s (zeros 32)).toArray 25)).setRow w5.heap.size (u8s r).toArray) = w6 at hW6 hS6 hK6 hK48 c36 c37 ⊢
       generalize w5.heap.size = g10 at hK6 ⊢)
    | (refine wpList_load_row rfl 25 _ rfl g8 rfl 25 (u8s r).toArray (0, 0) _ hK48.out Try.underlying25 rfl (by rw [hrs.out]; exact hi32.out) ?_)
    | (refine wpList_load_row rfl 25 _ rfl g10 rfl 25 (u8s r).toArray (0, 0) _ hK6.out Try.underlying25 rfl (by rw [hrs.out]; exact hi32.out) ?_))
  have hf := Lib.hid (hfin.out _ hW6.out)
  go_wp2_with fail
  exact hf.out
end Go.Proofs.Ytlolnpilpdkbkaa

namespace Go.Proofs.Ytlolnpilpdkbkaa
open Go.RowKit Go.Maps
set_option linter.unusedSimpArgs false
set_option linter.unusedVariables false

set_option maxRecDepth 100000 in
set_option maxHeartbeats 4000000 in
theorem asks12 (w0 w : World) (T : List (List Nat)) (hT : T.length ≤ 1048576) (gw : Nat) (P : Nat → Pl) (Ak : Option Addr) (ck : Nat) (K : List Kp) (hKl : K.length ≤ 1048576) (h : WS w0 T gw P Ak ck K w) (hE : Eqs P) (s : St) (hs : StOk w0 T s)
    (hk : s.kind = 12) :
    Calls Try.prog 23 #[.pointer (some ⟨gw, 0, none⟩), .agg (stepL s).toArray] w (AskP w0 T gw P K) := by
  obtain ⟨gs, hgs⟩ : ∃ gs, w.heap.size = gs := ⟨_, rfl⟩
  obtain ⟨w1, hw1⟩ : ∃ w1, w.alloc (.cells (stepL s).toArray 60) = w1 := ⟨_, rfl⟩
  have hB : Below w.heap.size w w1 := by rw [← hw1]; exact (Below.refl _ _).alloc (Nat.le_refl _) _
  have hW1 := Lib.hid (h.keep hB)
  have hS1 : Hid (SB gs s w1) := Lib.hid (by rw [← hw1, ← hgs]; exact heap_alloc_new w _)
  obtain ⟨i, hi⟩ : ∃ i, th s.on = i := ⟨_, rfl⟩
  have hi3 : i < 3 := by rw [← hi]; exact th_lt _
  have h3 := Lib.hid (three_any w1 s.on)
  rw [hi] at h3
  have hi3' := Lib.hid hi3
  have hi3i : (i : Int) < 3 := by omega
  obtain ⟨p, hp⟩ : ∃ p, P i = p := ⟨_, rfl⟩
  have hp' := Lib.hid hp
  have hEi : Hid (p.kp = p.kr) := Lib.hid (by rw [← hp]; exact hE i hi3)
  obtain ⟨Q, hQ⟩ : ∃ Q, AskP w0 T gw P K = Q := ⟨_, rfl⟩
  have hfin : Hid (∀ W, WS w0 T gw P Ak ck K W → Q (.returned (.bool true)) W) := Lib.hid fun W hW => by rw [← hQ]; exact ⟨rfl, Ak, ck, K, by omega, hW⟩
  have hQ' := Lib.hid hQ
  rw [hQ]
  have hs' := Lib.hid hs
  have hT' := Lib.hid hT
  have hKl' := Lib.hid hKl
  obtain ⟨vs, hvs⟩ : ∃ vs, (stepL s).toArray = vs := ⟨_, rfl⟩
  rw [hvs] at hw1 ⊢
  have c0 := hS1.out.c0
  have c1 := hS1.out.c1
  have d0 := hW1.out.cp hi3
  have d1 := hW1.out.cr hi3
  rw [hp] at d0 d1
  obtain ⟨vp, hvp⟩ : ∃ vp, pv p.o = vp := ⟨_, rfl⟩
  obtain ⟨q, hq⟩ : ∃ q, p.q = q := ⟨_, rfl⟩
  rw [hvp] at d0
  rw [hq] at d1
  have hvp' := Lib.hid hvp
  have hq' := Lib.hid hq
  have hi32 : Hid ((Try.prog.info? 25).map (·.size) = some 32) := Lib.hid (by kernel_rfl)
  have hzs : Hid ((u8s (zeros 32)).toArray.size = 32) := Lib.hid (by simp [u8s, zeros])
  have hzk := zeroKy
  have hkl : Hid (s.key.length = 32) := Lib.hid hs.key.1
  have hks : Hid ((u8s s.key).length = 32) := Lib.hid (by simp [u8s, hs.key.1])
  have hpl : Hid (∀ W, WS w0 T gw P Ak ck K W → PlAt w0 T p W) := Lib.hid fun W hW => by rw [← hp]; exact hW.pl i hi3
  obtain ⟨R1, R2, hR⟩ : ∃ (R1 : ByteArray) (R2 : Nat), (if s.key ∈ p.kr then #[Value.string ⟨((hexL s.key).take (shortN s.key p.kr)).toArray⟩, .int .i64 0] else #[.string ⟨#[]⟩, .int .i64 31]) = #[.string R1, .int .i64 (R2 : Int)] := by
    by_cases hm : s.key ∈ p.kr
    · exact ⟨_, 0, by rw [if_pos hm]; rfl⟩
    · exact ⟨_, 31, by rw [if_neg hm]; rfl⟩
  have hH1 : Hid (∀ W, WS w0 T gw P Ak ck K W → Calls Try.prog 18 #[vp, .agg (u8s s.key).toArray] W fun e w' => e = .returned (.tuple #[.string R1, .int .i64 (R2 : Int)]) ∧ Below W.heap.size W w') := Lib.hid fun W hW => by
    have hpw := hpl.out W hW
    have := shortO_any W p.o p.kp hpw.set (by have := hpw.lenP; have := hT'.out; omega) s.key hs'.out.key
    unfold ShortP at this
    rw [hvp, hEi.out, hR] at this
    exact this
  have hH2 : Hid (∀ W, WS w0 T gw P Ak ck K W → Calls Try.prog 43 #[.pointer (some ⟨q, 0, none⟩), .agg (u8s s.key).toArray] W fun e w' => e = .returned (.tuple #[.string R1, .int .i64 (R2 : Int)]) ∧ Below W.heap.size W w') := Lib.hid fun W hW => by
    have hpw := hpl.out W hW
    have := rShort_any W p.q p.c p.A p.kr hpw.ref hpw.rise (by have := hpw.lenR; have := hT'.out; omega) s.key hs'.out.key
    unfold ShortP at this
    rw [hq, hR] at this
    exact this
  clear hR
  clear h hE hs hT hKl hQ hB hvs hi hi3 hp hvp hq
  go_enter Try.func23, Try.ntmps23
  go_wp2_with (go_at_call 39; refine h3.out.mono ?_; rintro e w5 ⟨rfl, h5⟩; have h6 := h5.symm; clear h5; subst h6; clear h3)
  go_quiet (fail)
  have hW2 := Lib.hid (hW1.out.keep (below_drewN (Below.refl _ _) nq))
  have hS2 := Lib.hid (hS1.out.below (below_drewN (Below.refl _ _) nq))
  clear hW1 hS1 c0 c1 d0 d1
  generalize w1.drewN nq = w2 at hW2 hS2 ⊢
  have c0 := hS2.out.c0
  rw [hk] at c0
  have c36 := hS2.out.c36 hkl.out
  have c37 := hS2.out.c37 hkl.out
  go_wp2_with (first
    | (refine wpList_load_mid rfl 25 _ rfl gs 3 rfl (u8s s.key) _ (hS2.out.rk hkl.out) Try.underlying25 rfl (by rw [hks.out]; exact hi32.out) ?_)
    | (go_at_call 18; refine (hH1.out _ hW2.out).mono ?_; rintro e w4 ⟨rfl, b⟩; have hW4 := Lib.hid (hW2.out.keep b); have hS4 := Lib.hid (hS2.out.below b); have c36 := hS4.out.c36 hkl.out; have c37 := hS4.out.c37 hkl.out; clear b hH1)
    | (refine wpList_load_mid rfl 25 _ rfl gs 3 rfl (u8s s.key) _ (hS4.out.rk hkl.out) Try.underlying25 rfl (by rw [hks.out]; exact hi32.out) ?_)
    | (go_at_call 43; refine (hH2.out _ hW4.out).mono ?_; rintro e w6 ⟨rfl, b⟩; have hW6 := Lib.hid (hW4.out.keep b); have hS6 := Lib.hid (hS4.out.below b); have c36 := hS6.out.c36 hkl.out; have c37 := hS6.out.c37 hkl.out; clear b hH2))
  have hf := Lib.hid (hfin.out _ hW6.out)
  go_wp2_with fail
  exact hf.out
end Go.Proofs.Ytlolnpilpdkbkaa
