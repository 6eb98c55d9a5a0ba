/- KeySets: asks, kind 13: an iterator is kept. (Printed by tools/genak.py.) KeySets: asks. -/
import Derived.Test.YtlolnpilpdkbkaaPkA30
import Derived.Test.YtlolnpilpdkbkaaPkA31
import Derived.Test.YtlolnpilpdkbkaaPkA32

namespace Go.Proofs.Ytlolnpilpdkbkaa
open Go.RowKit Go.Maps
set_option linter.unusedSimpArgs false
set_option linter.unusedVariables false

theorem elKp : ElemOk Try.prog 53 63 (.agg #[.nilFunc, .slice none 0 0]) 2 32 := ⟨Try.underlying53, by kernel_rfl, by simp [Value.cells], by decide⟩
section
variable {P : Program} {ops : Array Oper} {o : Oper} {a : Act} {w : World} {K : Act → World → Prop} {Q : Exit → Act → World → Prop} {E : Prop}
theorem step_app {t : TypeId} (hgd : o.guard = none) (s x : Operand) (ho : o.op = .call { callee := .builtin .append, args := #[s, x], argTypes := #[t, t] }) (v1 v2 : Value) (hs : a.eval s = v1) (hx : a.eval x = v2) (v : Value) (w' : World)
    (hrun : (Builtin.append_ #[t, t] o.type #[v1, v2]).run P w = .ok v w') (h : K (a.put o.dst v) w') : if Region.wanted o (yielded ops a.tmps) = true then Oper.wp P o a w K Q else E := by
  rw [if_pos (by simp [Region.wanted, hgd])]
  unfold Oper.wp execOp
  simp only [ho, resolve, invoke, builtin, Sem.run_bind, Sem.run_pure, Result.andThen_ok, List.map_toArray, List.map_cons, List.map_nil, hs, hx, hrun]
  exact h
end
theorem builtKp (gI : Nat) (A : Option Addr) (N c : Nat) : Try.prog.builtSlice 63 1 [(0, .agg #[.func (.func 53) #[] #[.pointer (some ⟨gI, 0, none⟩)], .slice A N c])] = some #[.func (.func 53) #[] #[.pointer (some ⟨gI, 0, none⟩)], .slice A N c] := by kernel_rfl
section
variable {w0 vb vc : World} {T : List (List Nat)} {gw ck c6 B n : Nat} {P : Nat → Pl} {Ak A6 : Option Addr} {K : List Kp} {p : Pl} {e : Kp} {xs : List Value}
/-- An append changes no block but the row's. -/
theorem app_far (ho : Own vb B 63 2 Ak n ck xs) (at6 : AppAt vb vc Ak A6) {b : Nat} {ob : Obj} (hb : vb.heap[b]? = some ob) (hne : ∀ cs fr, ob ≠ .cells cs 63 fr) : vc.heap[b]? = vb.heap[b]? :=
  at6.grown.block b (Array.getElem?_eq_some_iff.1 hb).1 fun h => by
    obtain ⟨cs, hc⟩ := own_tag ho h.symm
    rw [hc] at hb
    cases hb
    exact hne _ _ rfl
theorem app_cells (ho : Own vb B 63 2 Ak n ck xs) (at6 : AppAt vb vc Ak A6) {b : Nat} {cs : Array Value} {t : TypeId} {fr : Nat × Nat} (hb : vb.heap[b]? = some (.cells cs t fr)) (ht : t ≠ 63) : vc.heap[b]? = vb.heap[b]? :=
  app_far ho at6 hb fun cs' fr' h => by
    injection h with _ h _
    exact ht h
theorem WS.kept (h : WS w0 T gw P Ak ck K vb) (o6 : Own vc w0.heap.size 63 2 A6 (K.length + 1) c6 (kpL (K ++ [e]))) (at6 : AppAt vb vc Ak A6) (he : KpAt T e vb) :
    WS w0 T gw P A6 c6 (K ++ [e]) (vc.setCell ⟨gw, 9, none⟩ (.slice A6 (K.length + 1) c6)) := by
  have hwl : vc.heap[gw]? = vb.heap[gw]? := app_cells h.row at6 h.wld (by decide)
  have hset := heap_setCell_same vc gw 9 _ _ (.slice A6 (K.length + 1) c6) (hwl.trans h.wld)
  have far : ∀ (b : Nat) (cs : Array Value) (t : TypeId) (fr : Nat × Nat), vb.heap[b]? = some (.cells cs t fr) → t ≠ 63 → t ≠ 55 → (vc.setCell ⟨gw, 9, none⟩ (.slice A6 (K.length + 1) c6)).heap[b]? = vb.heap[b]? := fun b cs t fr hb h1 h2 => by
    refine (Below.heap_setCell vc ⟨gw, 9, none⟩ _ b fun e => ?_).trans (app_cells h.row at6 hb h1)
    rw [show b = gw from e, h.wld] at hb
    injection hb with hb
    injection hb with _ hb _
    exact h2 hb.symm
  have farm : ∀ (b : Nat) (es : Array MapEntry) (cl : Nat), vb.heap[b]? = some (.map es cl) → (vc.setCell ⟨gw, 9, none⟩ (.slice A6 (K.length + 1) c6)).heap[b]? = vb.heap[b]? := fun b es cl hb => by
    refine (Below.heap_setCell vc ⟨gw, 9, none⟩ _ b fun e => ?_).trans (app_far h.row at6 hb fun _ _ h => by cases h)
    rw [show b = gw from e, h.wld] at hb
    cases hb
  have kpf : ∀ e', KpAt T e' vb → KpAt T e' (vc.setCell ⟨gw, 9, none⟩ (.slice A6 (K.length + 1) c6)) := fun e' he' =>
    he'.same (far _ _ _ _ he'.all.1 (by decide) (by decide)) fun k hk => by
      rcases hk with hk | hk
      · obtain ⟨cs, ht⟩ := own_tag he'.all.2 hk; exact far _ _ _ _ ht (by decide) (by decide)
      · obtain ⟨cs, ht⟩ := own_tag he'.own hk; exact far _ _ _ _ ht (by decide) (by decide)
  refine ⟨(h.bel.trans (at6.below h.row h.bel.size)).setCell (p := ⟨gw, 9, none⟩) h.lo _, h.lo, ?_, ?_, fun i hi => ?_, h.sep, fun e' he' => ?_⟩
  · rw [hset]
    simp [wcells]
  · rw [List.length_append]
    refine own_same o6 fun k hk => Below.heap_setCell vc ⟨gw, 9, none⟩ _ k fun e => ?_
    obtain ⟨cs, ht⟩ := own_tag o6 hk
    rw [show k = gw from e, hwl, h.wld] at ht
    cases ht
  · have hp := h.pl i hi
    refine hp.same (far _ _ _ _ hp.ref.1 (by decide) (by decide)) (fun k hk => by obtain ⟨cs, fr, ht⟩ := hp.ref.tag hk; exact far _ _ _ _ ht (by decide) (by decide)) (fun r hr => ?_)
    have hs := hp.set
    rw [hr] at hs
    obtain ⟨m, D, ⟨h1, es, clock, b1, _⟩, _⟩ := hs
    exact ⟨far _ _ _ _ h1 (by decide) (by decide), farm _ _ _ b1⟩
  · rcases List.mem_append.1 he' with he' | he'
    · exact kpf e' (h.kp e' he')
    · simp at he'
      rw [he']
      exact kpf e he
end
set_option maxRecDepth 100000 in
set_option maxHeartbeats 4000000 in
theorem asks13 (w0 w : World) (T : List (List Nat)) (hT : T.length ≤ 1048576) (gw : Nat) (P : Nat → Pl) (Ak : Option Addr) (ck : Nat) (K : List Kp) (hKl : K.length ≤ 1048576) (h : WS w0 T gw P Ak ck K w) (hE : Eqs P) (s : St) (hs : StOk w0 T s)
    (hk : s.kind = 13) :
    Calls Try.prog 23 #[.pointer (some ⟨gw, 0, none⟩), .agg (stepL s).toArray] w (AskP w0 T gw P K) := by
  obtain ⟨gs, hgs⟩ : ∃ gs, w.heap.size = gs := ⟨_, rfl⟩
  obtain ⟨w1, hw1⟩ : ∃ w1, w.alloc (.cells (stepL s).toArray 60) = w1 := ⟨_, rfl⟩
  have hB : Below w.heap.size w w1 := by rw [← hw1]; exact (Below.refl _ _).alloc (Nat.le_refl _) _
  have hW1 := Lib.hid (h.keep hB)
  have hS1 : Hid (SB gs s w1) := Lib.hid (by rw [← hw1, ← hgs]; exact heap_alloc_new w _)
  obtain ⟨i, hi⟩ : ∃ i, th s.on = i := ⟨_, rfl⟩
  have hi3 : i < 3 := by rw [← hi]; exact th_lt _
  have h3 := Lib.hid (three_any w1 s.on)
  rw [hi] at h3
  have hi3' := Lib.hid hi3
  have hi3i : (i : Int) < 3 := by omega
  obtain ⟨p, hp⟩ : ∃ p, P i = p := ⟨_, rfl⟩
  have hp' := Lib.hid hp
  have hEi : Hid (p.kp = p.kr) := Lib.hid (by rw [← hp]; exact hE i hi3)
  obtain ⟨Q, hQ⟩ : ∃ Q, AskP w0 T gw P K = Q := ⟨_, rfl⟩
  have hfin : Hid (∀ W, WS w0 T gw P Ak ck K W → Q (.returned (.bool true)) W) := Lib.hid fun W hW => by rw [← hQ]; exact ⟨rfl, Ak, ck, K, by omega, hW⟩
  have hQ' := Lib.hid hQ
  rw [hQ]
  have hs' := Lib.hid hs
  have hT' := Lib.hid hT
  have hKl' := Lib.hid hKl
  obtain ⟨vs, hvs⟩ : ∃ vs, (stepL s).toArray = vs := ⟨_, rfl⟩
  rw [hvs] at hw1 ⊢
  have c0 := hS1.out.c0
  have c1 := hS1.out.c1
  have d0 := hW1.out.cp hi3
  have d1 := hW1.out.cr hi3
  rw [hp] at d0 d1
  obtain ⟨vp, hvp⟩ : ∃ vp, pv p.o = vp := ⟨_, rfl⟩
  obtain ⟨q, hq⟩ : ∃ q, p.q = q := ⟨_, rfl⟩
  rw [hvp] at d0
  rw [hq] at d1
  have hvp' := Lib.hid hvp
  have hq' := Lib.hid hq
  have hi32 : Hid ((Try.prog.info? 25).map (·.size) = some 32) := Lib.hid (by kernel_rfl)
  have hzs : Hid ((u8s (zeros 32)).toArray.size = 32) := Lib.hid (by simp [u8s, zeros])
  have hzk := zeroKy
  have hkl : Hid (s.key.length = 32) := Lib.hid hs.key.1
  have hks : Hid ((u8s s.key).length = 32) := Lib.hid (by simp [u8s, hs.key.1])
  have hpl : Hid (∀ W, WS w0 T gw P Ak ck K W → PlAt w0 T p W) := Lib.hid fun W hW => by rw [← hp]; exact hW.pl i hi3
  obtain ⟨A, hA⟩ : ∃ A, p.A = A := ⟨_, rfl⟩
  obtain ⟨c, hc⟩ : ∃ c, p.c = c := ⟨_, rfl⟩
  obtain ⟨N, hN⟩ : ∃ N, p.kr.length = N := ⟨_, rfl⟩
  have hN' := Lib.hid hN
  have hRQ : Hid (∀ W, WS w0 T gw P Ak ck K W → RQ q A N c W) := Lib.hid fun W hW => by
    have := (hpl.out W hW).ref.1
    rw [hq, hA, hc, hN] at this
    exact this
  have hNT : Hid (N ≤ 1048576) := Lib.hid (by have := (hpl.out _ hW1.out).lenR; omega)
  have hH1 : Hid (∀ W, WS w0 T gw P Ak ck K W → Calls Try.prog 26 #[vp] W (AllP W p.kr)) := Lib.hid fun W hW => by
    have hpw := hpl.out W hW
    have := allO_any W p.o p.kp hpw.set (by have := hpw.lenP; have := hT'.out; omega)
    rw [hvp, hEi.out] at this
    exact this
  have hE2 : Hid (∀ W gI cI AI, WS w0 T gw P Ak ck K W → AllAt W gI AI cI p.kr → KpAt T ⟨gI, AI, cI, A, c, p.kr⟩ W) := Lib.hid fun W gI cI AI hW hat => by
    have hpw := hpl.out W hW
    rw [← hA, ← hc]
    exact ⟨hat, hpw.ref.2, hpw.rise, hpw.inR⟩
  have hfinK : Hid (∀ A6 c6 e W, WS w0 T gw P A6 c6 (K ++ [e]) W → Q (.returned (.bool true)) W) := Lib.hid fun A6 c6 e W hW => by
    rw [← hQ]
    exact ⟨rfl, A6, c6, K ++ [e], by simp, hW⟩
  obtain ⟨nK, hnK⟩ : ∃ nK, K.length = nK := ⟨_, rfl⟩
  have hnK' := Lib.hid hnK
  have hnKl : nK ≤ 1048576 := by omega
  clear hN hA hc hnK
  rename List Kp => KK
  clear h hE hs hT hKl hQ hB hvs hi hi3 hp hvp hq
  rw [hk] at c0
  go_enter Try.func23, Try.ntmps23
  go_wp2_with (go_at_call 39; refine h3.out.mono ?_; rintro e w5 ⟨rfl, h5⟩; have h6 := h5.symm; clear h5; subst h6; clear h3)
  go_quiet (fail)
  go_wp2_with fail
  have hW2 := Lib.hid (hW1.out.keep (below_drewN (Below.refl _ _) nq))
  have hS2 := Lib.hid (hS1.out.below (below_drewN (Below.refl _ _) nq))
  clear hW1 hS1 c0 c1 d0 d1
  generalize w1.drewN nq = w2 at hW2 hS2 ⊢
  have hd : Hid (RQ q A N c w2.drew) := Lib.hid ((hRQ.out _ hW2.out).below (below_drewN (Below.refl _ _) 1))
  have whd : Hid (WS _ _ _ _ _ _ _ w2.drew) := Lib.hid (hW2.out.keep (below_drewN (Below.refl _ _) 1))
  refine wp_region_held (S := RQ q A N c) (by kernel_rfl) ?_
  change wpAnyH _ _ _ _ _ _ _ _ (World.drew _)
  refine tk (i := 0) (d := 98) (v := (.pointer (some ⟨gw, 0, none⟩))) rfl rfl (Or.inl ⟨by rfl, by intro W hW; clear hW; go_simp⟩) hd.out ?_
  simp only [List.setIfInBounds_toArray, List.set_cons_zero, List.set_cons_succ]
  refine tk (i := 1) (d := 99) (v := (.pointer (some ⟨gw, 0, none⟩))) rfl rfl (Or.inl ⟨by rfl, by intro W hW; clear hW; go_simp⟩) hd.out ?_
  simp only [List.setIfInBounds_toArray, List.set_cons_zero, List.set_cons_succ]
  refine tk (i := 2) (d := 100) (v := (.pointer (some ⟨gw, 0, none⟩))) rfl rfl (Or.inl ⟨by rfl, by intro W hW; clear hW; go_simp⟩) hd.out ?_
  simp only [List.setIfInBounds_toArray, List.set_cons_zero, List.set_cons_succ]
  refine tk (i := 3) (d := 101) (v := (.pointer (some ⟨gw, 9, none⟩))) rfl rfl (Or.inl ⟨by rfl, by intro W hW; clear hW; go_simp⟩) hd.out ?_
  simp only [List.setIfInBounds_toArray, List.set_cons_zero, List.set_cons_succ]
  refine tk (i := 5) (d := 103) (v := (vp)) rfl rfl (Or.inl ⟨by rfl, by intro W hW; clear hW; go_simp⟩) hd.out ?_
  simp only [List.setIfInBounds_toArray, List.set_cons_zero, List.set_cons_succ]
  refine tk (i := 7) (d := 105) (v := (.pointer (some ⟨q, 0, none⟩))) rfl rfl (Or.inl ⟨by rfl, by intro W hW; clear hW; go_simp⟩) hd.out ?_
  simp only [List.setIfInBounds_toArray, List.set_cons_zero, List.set_cons_succ]
  refine tk (i := 8) (d := 106) (v := (.pointer (some ⟨q, 0, none⟩))) rfl rfl (Or.inl ⟨by rfl, by intro W hW; clear hW; go_simp⟩) hd.out ?_
  simp only [List.setIfInBounds_toArray, List.set_cons_zero, List.set_cons_succ]
  refine tk (i := 9) (d := 107) (v := (.pointer (some ⟨q, 0, none⟩))) rfl rfl (Or.inl ⟨by rfl, by intro W hW; clear hW; go_simp⟩) hd.out ?_
  simp only [List.setIfInBounds_toArray, List.set_cons_zero, List.set_cons_succ]
  refine tk (i := 10) (d := 108) (v := (.slice A N c)) rfl rfl (Or.inl ⟨by rfl, by intro W hW; have c0 := RQ.cel hW; clear hW; go_simp⟩) hd.out ?_
  simp only [List.setIfInBounds_toArray, List.set_cons_zero, List.set_cons_succ]
  refine wpAnyH_ready (rs := [4, 6]) (by kernel_rfl) (by simp) ?_
  refine AllReadyH.cons rfl (fun K hK => ?_) (AllReadyH.cons rfl (fun K hK => ?_) AllReadyH.nil)
  · have c9 := whd.out.ck9
    rw [hnK'.out] at c9
    try simp only [World.cell?_drew] at c9
    go_simp
    clear c9
    refine hK.out _ _ hd.out (fun _ => ?_)
    clear hK K
    refine wpAnyH_ready (rs := [6]) (by kernel_rfl) (by simp) ?_
    refine AllReadyH.cons rfl (fun K hK => ?_) AllReadyH.nil
    go_simp
    refine (hH1.out _ whd.out).mono ?_
    rintro e va ⟨gI, AI, cI, rfl, hat0, qa, _, _⟩
    have hda : Hid (RQ q A N c va) := Lib.hid (hd.out.below qa)
    have whda := Lib.hid (whd.out.keep qa)
    have hat := Lib.hid hat0
    have hbk := Lib.hid (bldKept gI A N c)
    clear qa hat0
    refine hK.out _ _ hda.out (fun _ => ?_)
    clear hK K
    refine tk (i := 11) (d := 109) (v := (.agg #[.func (.func 53) #[] #[.pointer (some ⟨gI, 0, none⟩)], .slice A N c])) rfl rfl (yieldsIf_bld (by rfl) 63 _ rfl #[(0, .func (.func 53) #[] #[.pointer (some ⟨gI, 0, none⟩)]), (1, .slice A N c)] (by rw [List.map_toArray]; rfl) _ hbk.out) hda.out ?_
    simp only [List.setIfInBounds_toArray, List.set_cons_zero, List.set_cons_succ]
    refine wpAnyH_ready (rs := [12]) (by kernel_rfl) (by simp) ?_
    refine AllReadyH.cons rfl (fun K hK => ?_) AllReadyH.nil
    have hbs := fun W => run_bslice (P := Try.prog) W 53 63 1 #[(0, .agg #[.func (.func 53) #[] #[.pointer (some ⟨gI, 0, none⟩)], .slice A N c])] _ Try.underlying53 (builtKp gI A N c)
    go_simp
    clear hbs
    obtain ⟨vb, hvb⟩ : ∃ v, World.alloc va (.cells #[.func (.func 53) #[] #[.pointer (some ⟨gI, 0, none⟩)], .slice A N c] 63) = v := ⟨_, rfl⟩
    have qb : Below va.heap.size va vb := by rw [← hvb]; exact (Below.refl _ _).alloc (Nat.le_refl _) _
    have hdb : Hid (RQ q A N c vb) := Lib.hid (hda.out.below qb)
    have whdb := Lib.hid (whda.out.keep qb)
    have hke := Lib.hid (hE2.out vb gI cI AI whdb.out (hat.out.below qb (Nat.le_refl _)))
    have hnw : vb.heap[va.heap.size]? = some (.cells #[.func (.func 53) #[] #[.pointer (some ⟨gI, 0, none⟩)], .slice A N c] 63 (0, 0)) := by rw [← hvb]; exact heap_alloc_new va _
    obtain ⟨kb, hkb⟩ : ∃ k, va.heap.size = k := ⟨_, rfl⟩
    rw [hkb] at hnw ⊢
    rw [hvb]
    have hnw' := Lib.hid hnw
    clear qb hvb hkb hnw
    refine hK.out _ _ hdb.out (fun _ => ?_)
    clear hK K
    refine wpAnyH_ready (rs := [13]) (by kernel_rfl) (by simp) ?_
    refine AllReadyH.cons rfl (fun K hK => ?_) AllReadyH.nil
    have hro := whdb.out.row
    rw [hnK'.out] at hro
    have hrd : Rd vb (kb + 1) (some ⟨kb, 0, none⟩) (1 * 2) (fun j => #[.func (.func 53) #[] #[.pointer (some ⟨gI, 0, none⟩)], Value.slice A N c].toList[j]?.getD undef) := fun _ => by
      refine ⟨kb, 0, rfl, by omega, fun j hj => ?_⟩
      rw [cell_of_row vb kb (0 + j) _ _ _ hnw'.out]
      rcases (show j = 0 ∨ j = 1 by omega) with rfl | rfl <;> rfl
    obtain ⟨A6, c6, vc, hrun, o6, at6⟩ := run_app (P := Try.prog) elKp 53 vb hro (c2 := 1) hrd (fun j hj => by rcases (show j = 0 ∨ j = 1 by omega) with rfl | rfl <;> rfl) (by unfold maxLen; omega) (by omega) whdb.out.bel.size
    clear hrd
    refine step_app rfl _ _ rfl _ _ rfl rfl _ _ hrun ?_
    clear hrun
    have hdc : Hid (RQ q A N c vc) := Lib.hid ((app_cells hro at6 hdb.out (by decide)).trans hdb.out)
    have hwc : Hid (WS w0 T gw P A6 c6 (KK ++ [⟨gI, AI, cI, A, c, p.kr⟩]) (vc.setCell ⟨gw, 9, none⟩ (.slice A6 (KK.length + 1) c6))) := Lib.hid (whdb.out.kept (by
      have e : kpL (KK ++ [⟨gI, AI, cI, A, c, p.kr⟩]) = kpL KK ++ (List.range (1 * 2)).map (fun j => #[.func (.func 53) #[] #[.pointer (some ⟨gI, 0, none⟩)], Value.slice A N c].toList[j]?.getD undef) := by
        unfold kpL
        rw [List.flatMap_append]
        congr 1
        simp [kpV, hN'.out, List.range_succ]
      rw [e, hnK'.out]
      exact o6) at6 hke.out)
    rw [hnK'.out] at hwc
    have hwl : Hid (vc.heap[gw]? = some (.cells (wcells P Ak KK.length ck).toArray 55 (0, 0))) := Lib.hid ((app_cells hro at6 whdb.out.wld (by decide)).trans whdb.out.wld)
    clear hro o6 at6
    refine hK.out _ _ hdc.out (fun _ => ?_)
    clear hK K
    refine tk (i := 14) (d := 112) (v := (.pointer (some ⟨gw, 0, none⟩))) rfl rfl (Or.inl ⟨by rfl, by intro W hW; clear hW; go_simp⟩) hdc.out ?_
    simp only [List.setIfInBounds_toArray, List.set_cons_zero, List.set_cons_succ]
    refine tk (i := 15) (d := 113) (v := (.pointer (some ⟨gw, 9, none⟩))) rfl rfl (Or.inl ⟨by rfl, by intro W hW; clear hW; go_simp⟩) hdc.out ?_
    simp only [List.setIfInBounds_toArray, List.set_cons_zero, List.set_cons_succ]
    refine wpAnyH_ready (rs := [16]) (by kernel_rfl) (by simp) ?_
    refine AllReadyH.cons rfl (fun K hK => ?_) AllReadyH.nil
    have c9 : vc.cell? ⟨gw, 9, none⟩ = some (.slice Ak KK.length ck) := by
      unfold World.cell?
      rw [hwl.out]
      rfl
    have f9 : vc.frozen? ⟨gw, 9, none⟩ = false := frozen_of_row _ _ _ _ _ hwl.out
    go_simp
    have hdd : Hid (RQ q A N c (vc.setCell ⟨gw, 9, none⟩ (.slice A6 (nK + 1) c6))) := Lib.hid ((Below.heap_setCell vc ⟨gw, 9, none⟩ _ q (fun e => by
      have h1 := hdc.out
      have h2 := hwl.out
      rw [← show q = gw from e, show vc.heap[q]? = _ from h1] at h2
      cases h2)).trans hdc.out)
    clear c9 f9
    refine hK.out _ _ hdd.out (fun _ => ?_)
    clear hK K
    refine wpAnyH_done (by kernel_rfl) ?_ _
    have hf := Lib.hid (hfinK.out _ _ _ _ hwc.out)
    go_wp2_with fail
    exact hf.out
  · go_simp
    refine (hH1.out _ whd.out).mono ?_
    rintro e va ⟨gI, AI, cI, rfl, hat0, qa, _, _⟩
    have hda : Hid (RQ q A N c va) := Lib.hid (hd.out.below qa)
    have whda := Lib.hid (whd.out.keep qa)
    have hat := Lib.hid hat0
    have hbk := Lib.hid (bldKept gI A N c)
    clear qa hat0
    refine hK.out _ _ hda.out (fun _ => ?_)
    clear hK K
    refine tk (i := 11) (d := 109) (v := (.agg #[.func (.func 53) #[] #[.pointer (some ⟨gI, 0, none⟩)], .slice A N c])) rfl rfl (yieldsIf_bld (by rfl) 63 _ rfl #[(0, .func (.func 53) #[] #[.pointer (some ⟨gI, 0, none⟩)]), (1, .slice A N c)] (by rw [List.map_toArray]; rfl) _ hbk.out) hda.out ?_
    simp only [List.setIfInBounds_toArray, List.set_cons_zero, List.set_cons_succ]
    refine wpAnyH_ready (rs := [4, 12]) (by kernel_rfl) (by simp) ?_
    refine AllReadyH.cons rfl (fun K hK => ?_) (AllReadyH.cons rfl (fun K hK => ?_) AllReadyH.nil)
    · have c9 := whda.out.ck9
      rw [hnK'.out] at c9
      try simp only [World.cell?_drew] at c9
      go_simp
      clear c9
      refine hK.out _ _ hda.out (fun _ => ?_)
      clear hK K
      refine wpAnyH_ready (rs := [12]) (by kernel_rfl) (by simp) ?_
      refine AllReadyH.cons rfl (fun K hK => ?_) AllReadyH.nil
      have hbs := fun W => run_bslice (P := Try.prog) W 53 63 1 #[(0, .agg #[.func (.func 53) #[] #[.pointer (some ⟨gI, 0, none⟩)], .slice A N c])] _ Try.underlying53 (builtKp gI A N c)
      go_simp
      clear hbs
      obtain ⟨vb, hvb⟩ : ∃ v, World.alloc va (.cells #[.func (.func 53) #[] #[.pointer (some ⟨gI, 0, none⟩)], .slice A N c] 63) = v := ⟨_, rfl⟩
      have qb : Below va.heap.size va vb := by rw [← hvb]; exact (Below.refl _ _).alloc (Nat.le_refl _) _
      have hdb : Hid (RQ q A N c vb) := Lib.hid (hda.out.below qb)
      have whdb := Lib.hid (whda.out.keep qb)
      have hke := Lib.hid (hE2.out vb gI cI AI whdb.out (hat.out.below qb (Nat.le_refl _)))
      have hnw : vb.heap[va.heap.size]? = some (.cells #[.func (.func 53) #[] #[.pointer (some ⟨gI, 0, none⟩)], .slice A N c] 63 (0, 0)) := by rw [← hvb]; exact heap_alloc_new va _
      obtain ⟨kb, hkb⟩ : ∃ k, va.heap.size = k := ⟨_, rfl⟩
      rw [hkb] at hnw ⊢
      rw [hvb]
      have hnw' := Lib.hid hnw
      clear qb hvb hkb hnw
      refine hK.out _ _ hdb.out (fun _ => ?_)
      clear hK K
      refine wpAnyH_ready (rs := [13]) (by kernel_rfl) (by simp) ?_
      refine AllReadyH.cons rfl (fun K hK => ?_) AllReadyH.nil
      have hro := whdb.out.row
      rw [hnK'.out] at hro
      have hrd : Rd vb (kb + 1) (some ⟨kb, 0, none⟩) (1 * 2) (fun j => #[.func (.func 53) #[] #[.pointer (some ⟨gI, 0, none⟩)], Value.slice A N c].toList[j]?.getD undef) := fun _ => by
        refine ⟨kb, 0, rfl, by omega, fun j hj => ?_⟩
        rw [cell_of_row vb kb (0 + j) _ _ _ hnw'.out]
        rcases (show j = 0 ∨ j = 1 by omega) with rfl | rfl <;> rfl
      obtain ⟨A6, c6, vc, hrun, o6, at6⟩ := run_app (P := Try.prog) elKp 53 vb hro (c2 := 1) hrd (fun j hj => by rcases (show j = 0 ∨ j = 1 by omega) with rfl | rfl <;> rfl) (by unfold maxLen; omega) (by omega) whdb.out.bel.size
      clear hrd
      refine step_app rfl _ _ rfl _ _ rfl rfl _ _ hrun ?_
      clear hrun
      have hdc : Hid (RQ q A N c vc) := Lib.hid ((app_cells hro at6 hdb.out (by decide)).trans hdb.out)
      have hwc : Hid (WS w0 T gw P A6 c6 (KK ++ [⟨gI, AI, cI, A, c, p.kr⟩]) (vc.setCell ⟨gw, 9, none⟩ (.slice A6 (KK.length + 1) c6))) := Lib.hid (whdb.out.kept (by
        have e : kpL (KK ++ [⟨gI, AI, cI, A, c, p.kr⟩]) = kpL KK ++ (List.range (1 * 2)).map (fun j => #[.func (.func 53) #[] #[.pointer (some ⟨gI, 0, none⟩)], Value.slice A N c].toList[j]?.getD undef) := by
          unfold kpL
          rw [List.flatMap_append]
          congr 1
          simp [kpV, hN'.out, List.range_succ]
        rw [e, hnK'.out]
        exact o6) at6 hke.out)
      rw [hnK'.out] at hwc
      have hwl : Hid (vc.heap[gw]? = some (.cells (wcells P Ak KK.length ck).toArray 55 (0, 0))) := Lib.hid ((app_cells hro at6 whdb.out.wld (by decide)).trans whdb.out.wld)
      clear hro o6 at6
      refine hK.out _ _ hdc.out (fun _ => ?_)
      clear hK K
      refine tk (i := 14) (d := 112) (v := (.pointer (some ⟨gw, 0, none⟩))) rfl rfl (Or.inl ⟨by rfl, by intro W hW; clear hW; go_simp⟩) hdc.out ?_
      simp only [List.setIfInBounds_toArray, List.set_cons_zero, List.set_cons_succ]
      refine tk (i := 15) (d := 113) (v := (.pointer (some ⟨gw, 9, none⟩))) rfl rfl (Or.inl ⟨by rfl, by intro W hW; clear hW; go_simp⟩) hdc.out ?_
      simp only [List.setIfInBounds_toArray, List.set_cons_zero, List.set_cons_succ]
      refine wpAnyH_ready (rs := [16]) (by kernel_rfl) (by simp) ?_
      refine AllReadyH.cons rfl (fun K hK => ?_) AllReadyH.nil
      have c9 : vc.cell? ⟨gw, 9, none⟩ = some (.slice Ak KK.length ck) := by
        unfold World.cell?
        rw [hwl.out]
        rfl
      have f9 : vc.frozen? ⟨gw, 9, none⟩ = false := frozen_of_row _ _ _ _ _ hwl.out
      go_simp
      have hdd : Hid (RQ q A N c (vc.setCell ⟨gw, 9, none⟩ (.slice A6 (nK + 1) c6))) := Lib.hid ((Below.heap_setCell vc ⟨gw, 9, none⟩ _ q (fun e => by
        have h1 := hdc.out
        have h2 := hwl.out
        rw [← show q = gw from e, show vc.heap[q]? = _ from h1] at h2
        cases h2)).trans hdc.out)
      clear c9 f9
      refine hK.out _ _ hdd.out (fun _ => ?_)
      clear hK K
      refine wpAnyH_done (by kernel_rfl) ?_ _
      have hf := Lib.hid (hfinK.out _ _ _ _ hwc.out)
      go_wp2_with fail
      exact hf.out
    · have hbs := fun W => run_bslice (P := Try.prog) W 53 63 1 #[(0, .agg #[.func (.func 53) #[] #[.pointer (some ⟨gI, 0, none⟩)], .slice A N c])] _ Try.underlying53 (builtKp gI A N c)
      go_simp
      clear hbs
      obtain ⟨vb, hvb⟩ : ∃ v, World.alloc va (.cells #[.func (.func 53) #[] #[.pointer (some ⟨gI, 0, none⟩)], .slice A N c] 63) = v := ⟨_, rfl⟩
      have qb : Below va.heap.size va vb := by rw [← hvb]; exact (Below.refl _ _).alloc (Nat.le_refl _) _
      have hdb : Hid (RQ q A N c vb) := Lib.hid (hda.out.below qb)
      have whdb := Lib.hid (whda.out.keep qb)
      have hke := Lib.hid (hE2.out vb gI cI AI whdb.out (hat.out.below qb (Nat.le_refl _)))
      have hnw : vb.heap[va.heap.size]? = some (.cells #[.func (.func 53) #[] #[.pointer (some ⟨gI, 0, none⟩)], .slice A N c] 63 (0, 0)) := by rw [← hvb]; exact heap_alloc_new va _
      obtain ⟨kb, hkb⟩ : ∃ k, va.heap.size = k := ⟨_, rfl⟩
      rw [hkb] at hnw ⊢
      rw [hvb]
      have hnw' := Lib.hid hnw
      clear qb hvb hkb hnw
      refine hK.out _ _ hdb.out (fun _ => ?_)
      clear hK K
      refine wpAnyH_ready (rs := [4]) (by kernel_rfl) (by simp) ?_
      refine AllReadyH.cons rfl (fun K hK => ?_) AllReadyH.nil
      have c9 := whdb.out.ck9
      rw [hnK'.out] at c9
      try simp only [World.cell?_drew] at c9
      go_simp
      clear c9
      refine hK.out _ _ hdb.out (fun _ => ?_)
      clear hK K
      refine wpAnyH_ready (rs := [13]) (by kernel_rfl) (by simp) ?_
      refine AllReadyH.cons rfl (fun K hK => ?_) AllReadyH.nil
      have hro := whdb.out.row
      rw [hnK'.out] at hro
      have hrd : Rd vb (kb + 1) (some ⟨kb, 0, none⟩) (1 * 2) (fun j => #[.func (.func 53) #[] #[.pointer (some ⟨gI, 0, none⟩)], Value.slice A N c].toList[j]?.getD undef) := fun _ => by
        refine ⟨kb, 0, rfl, by omega, fun j hj => ?_⟩
        rw [cell_of_row vb kb (0 + j) _ _ _ hnw'.out]
        rcases (show j = 0 ∨ j = 1 by omega) with rfl | rfl <;> rfl
      obtain ⟨A6, c6, vc, hrun, o6, at6⟩ := run_app (P := Try.prog) elKp 53 vb hro (c2 := 1) hrd (fun j hj => by rcases (show j = 0 ∨ j = 1 by omega) with rfl | rfl <;> rfl) (by unfold maxLen; omega) (by omega) whdb.out.bel.size
      clear hrd
      refine step_app rfl _ _ rfl _ _ rfl rfl _ _ hrun ?_
      clear hrun
      have hdc : Hid (RQ q A N c vc) := Lib.hid ((app_cells hro at6 hdb.out (by decide)).trans hdb.out)
      have hwc : Hid (WS w0 T gw P A6 c6 (KK ++ [⟨gI, AI, cI, A, c, p.kr⟩]) (vc.setCell ⟨gw, 9, none⟩ (.slice A6 (KK.length + 1) c6))) := Lib.hid (whdb.out.kept (by
        have e : kpL (KK ++ [⟨gI, AI, cI, A, c, p.kr⟩]) = kpL KK ++ (List.range (1 * 2)).map (fun j => #[.func (.func 53) #[] #[.pointer (some ⟨gI, 0, none⟩)], Value.slice A N c].toList[j]?.getD undef) := by
          unfold kpL
          rw [List.flatMap_append]
          congr 1
          simp [kpV, hN'.out, List.range_succ]
        rw [e, hnK'.out]
        exact o6) at6 hke.out)
      rw [hnK'.out] at hwc
      have hwl : Hid (vc.heap[gw]? = some (.cells (wcells P Ak KK.length ck).toArray 55 (0, 0))) := Lib.hid ((app_cells hro at6 whdb.out.wld (by decide)).trans whdb.out.wld)
      clear hro o6 at6
      refine hK.out _ _ hdc.out (fun _ => ?_)
      clear hK K
      refine tk (i := 14) (d := 112) (v := (.pointer (some ⟨gw, 0, none⟩))) rfl rfl (Or.inl ⟨by rfl, by intro W hW; clear hW; go_simp⟩) hdc.out ?_
      simp only [List.setIfInBounds_toArray, List.set_cons_zero, List.set_cons_succ]
      refine tk (i := 15) (d := 113) (v := (.pointer (some ⟨gw, 9, none⟩))) rfl rfl (Or.inl ⟨by rfl, by intro W hW; clear hW; go_simp⟩) hdc.out ?_
      simp only [List.setIfInBounds_toArray, List.set_cons_zero, List.set_cons_succ]
      refine wpAnyH_ready (rs := [16]) (by kernel_rfl) (by simp) ?_
      refine AllReadyH.cons rfl (fun K hK => ?_) AllReadyH.nil
      have c9 : vc.cell? ⟨gw, 9, none⟩ = some (.slice Ak KK.length ck) := by
        unfold World.cell?
        rw [hwl.out]
        rfl
      have f9 : vc.frozen? ⟨gw, 9, none⟩ = false := frozen_of_row _ _ _ _ _ hwl.out
      go_simp
      have hdd : Hid (RQ q A N c (vc.setCell ⟨gw, 9, none⟩ (.slice A6 (nK + 1) c6))) := Lib.hid ((Below.heap_setCell vc ⟨gw, 9, none⟩ _ q (fun e => by
        have h1 := hdc.out
        have h2 := hwl.out
        rw [← show q = gw from e, show vc.heap[q]? = _ from h1] at h2
        cases h2)).trans hdc.out)
      clear c9 f9
      refine hK.out _ _ hdd.out (fun _ => ?_)
      clear hK K
      refine wpAnyH_done (by kernel_rfl) ?_ _
      have hf := Lib.hid (hfinK.out _ _ _ _ hwc.out)
      go_wp2_with fail
      exact hf.out
end Go.Proofs.Ytlolnpilpdkbkaa

namespace Go.Proofs.Ytlolnpilpdkbkaa
open Go.RowKit Go.Maps
theorem asks_any (w0 w : World) (T : List (List Nat)) (hT : T.length ≤ 1048576) (gw : Nat) (P : Nat → Pl) (Ak : Option Addr) (ck : Nat) (K : List Kp) (hKl : K.length ≤ 1048576) (h : WS w0 T gw P Ak ck K w) (hE : Eqs P) (s : St) (hs : StOk w0 T s) :
    Calls Try.prog 23 #[.pointer (some ⟨gw, 0, none⟩), .agg (stepL s).toArray] w (AskP w0 T gw P K) := by
  by_cases h3 : s.kind = 3
  · exact asks3 w0 w T hT gw P Ak ck K hKl h hE s hs h3
  by_cases h5 : s.kind = 5
  · exact asks5 w0 w T hT gw P Ak ck K hKl h hE s hs h5
  by_cases h6 : s.kind = 6
  · exact asks6 w0 w T hT gw P Ak ck K hKl h hE s hs h6
  by_cases h7 : s.kind = 7
  · exact asks7 w0 w T hT gw P Ak ck K hKl h hE s hs h7
  by_cases h13 : s.kind = 13
  · exact asks13 w0 w T hT gw P Ak ck K hKl h hE s hs h13
  by_cases h11 : s.kind = 11
  · exact asks11 w0 w T hT gw P Ak ck K hKl h hE s hs h11
  by_cases h12 : s.kind = 12
  · exact asks12 w0 w T hT gw P Ak ck K hKl h hE s hs h12
  exact asks0 w0 w T hT gw P Ak ck K hKl h hE s hs ⟨h3, h5, h6, h7, h13, h11, h12⟩
end Go.Proofs.Ytlolnpilpdkbkaa
