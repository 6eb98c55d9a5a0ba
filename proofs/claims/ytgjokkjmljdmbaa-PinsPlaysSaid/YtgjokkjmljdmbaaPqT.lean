/- Sessions, the program's and the document's. (Printed by tools/genpq2.py.) -/
import Derived.Test.YtgjokkjmljdmbaaPqL
import Derived.Test.YtgjokkjmljdmbaaPqC
namespace Go.Proofs.Ytgjokkjmljdmbaa
open Go.RowKit Go.Maps
set_option linter.unusedSimpArgs false
set_option linter.unusedVariables false

/-- A session as it is told. -/
structure SE where
  num : Nat
  busy : Nat
  ks : List (List Nat)
  A : Option Addr
  c : Nat
def encE (e : SE) : List Value := [.int .i64 (e.num : Int), .int .i64 (e.busy : Int), .slice e.A e.ks.length e.c]
def rowsE (l : List SE) : List Value := l.flatMap encE
def seOf (e : SE) : Nat × Nat × List (List Nat) := (e.num, e.busy, e.ks)
theorem rowsK_one' : ∀ {l : List (List Nat)}, ∀ u ∈ rowsK l, u.oneCell' = true := fun {l} u hu => by
  unfold rowsK at hu
  obtain ⟨x, _, hx⟩ := List.mem_flatMap.1 hu
  exact u8s_one u hx
theorem elSes : ElemOk Try.prog 70 85 (.agg #[.int .i64 0, .int .i64 0, .slice none 0 0]) 3 40 := ⟨Try.underlying70, by kernel_rfl, by simp [Value.cells], by decide⟩
theorem bldSes (k bz : Nat) (A : Option Addr) (N c : Nat) (w : World) : (Instr.build 85 #[(0, .int .i64 (k : Int)), (1, .int .i64 (bz : Int)), (2, .slice A N c)]).run Try.prog w = .ok (.agg #[.int .i64 (k : Int), .int .i64 (bz : Int), .slice A N c]) w :=
  run_build w _ _ _ (by kernel_rfl)
theorem builtSes (k bz : Nat) (A : Option Addr) (N c : Nat) : Try.prog.builtSlice 85 1 [(0, .agg #[.int .i64 (k : Int), .int .i64 (bz : Int), .slice A N c])] = some #[.int .i64 (k : Int), .int .i64 (bz : Int), .slice A N c] := by kernel_rfl
section
variable {P : Program} {ops : Array Oper} {o : Oper} {a : Act} {w : World} {K : Act → World → Prop} {Q : Exit → Act → World → Prop} {E : Prop}
theorem step_appQ {t : TypeId} (hgd : o.guard = none) (s x : Operand) (ho : o.op = .call { callee := .builtin .append, args := #[s, x], argTypes := #[t, t] }) (v1 v2 : Value) (hs : a.eval s = v1) (hx : a.eval x = v2) (v : Value) (w' : World)
    (hrun : (Builtin.append_ #[t, t] o.type #[v1, v2]).run P w = .ok v w') (h : K (a.put o.dst v) w') : if Region.wanted o (yielded ops a.tmps) = true then Oper.wp P o a w K Q else E := by
  rw [if_pos (by simp [Region.wanted, hgd])]
  unfold Oper.wp execOp
  simp only [ho, resolve, invoke, builtin, Sem.run_bind, Sem.run_pure, Result.andThen_ok, List.map_toArray, List.map_cons, List.map_nil, hs, hx, hrun]
  exact h
end
theorem own_unlikeQ {w : World} {B B' e e' size size' n n' c c' : Nat} {A A' : Option Addr} {xs xs' : List Value} (h : Own w B e size A n c xs) (h' : Own w B' e' size' A' n' c' xs') (hne : e ≠ e') : Dis A A' := fun k h1 h2 => by
  obtain ⟨cs, fr, e1⟩ := own_tag h h1
  obtain ⟨cs', fr', e2⟩ := own_tag h' h2
  rw [e1] at e2
  cases e2
  exact hne rfl
/-- A list of sessions in new memory. -/
structure SesL (w : World) (B : Nat) (A : Option Addr) (c : Nat) (l : List SE) : Prop where
  row : Own w B 85 3 A l.length c (rowsE l)
  each : ∀ (i : Nat) e, l[i]? = some e → Own w B 29 32 e.A e.ks.length e.c (rowsK e.ks)
  rise : ∀ (i : Nat) e, l[i]? = some e → Rise32 e.ks
  dis : ∀ (i j : Nat) e e', i ≠ j → l[i]? = some e → l[j]? = some e' → Dis e.A e'.A
section
variable {w w' : World} {B c : Nat} {A : Option Addr} {l : List SE}
theorem SesL.nil (w : World) (B : Nat) : SesL w B none 0 [] := ⟨Own.nil _ _ _ _, fun i e h => by simp at h, fun i e h => by simp at h, fun i j e e' _ h => by simp at h⟩
theorem SesL.below (h : SesL w B A c l) (hb : Below w.heap.size w w') : SesL w' B A c l :=
  ⟨h.row.below hb (fun k hk => (h.row.lt k hk).2), fun i e hi => (h.each i e hi).below hb (fun k hk => ((h.each i e hi).lt k hk).2), h.rise, h.dis⟩
theorem SesL.base {B' : Nat} (h : SesL w B A c l) (hB : B' ≤ B) : SesL w B' A c l :=
  ⟨h.row.base hB, fun i e hi => (h.each i e hi).base hB, h.rise, h.dis⟩
theorem SesL.snoc {e : SE} {A' : Option Addr} {c' : Nat} (h : SesL w B A c l) (ho : Own w B 29 32 e.A e.ks.length e.c (rowsK e.ks)) (hr : Rise32 e.ks) (hd : ∀ (i : Nat) x, l[i]? = some x → Dis x.A e.A) (o' : Own w' B 85 3 A' (l.length + 1) c' (rowsE (l ++ [e]))) (at' : AppAt w w' A A') :
    SesL w' B A' c' (l ++ [e]) := by
  have key : ∀ (i : Nat) x, (l ++ [e])[i]? = some x → (i < l.length ∧ l[i]? = some x) ∨ (i = l.length ∧ x = e) := fun i x hx => by
    rw [List.getElem?_append] at hx
    split at hx
    · rename_i hi; exact .inl ⟨hi, hx⟩
    · rename_i hi
      have : i - l.length = 0 := by
        rcases Nat.eq_zero_or_pos (i - l.length) with h0 | h0
        · exact h0
        · rw [List.getElem?_eq_none (by simp; omega)] at hx; cases hx
      rw [this] at hx
      simp at hx
      exact .inr ⟨by omega, hx.symm⟩
  refine ⟨by rw [List.length_append]; exact o', fun i x hx => ?_, fun i x hx => ?_, fun i j x y hij hx hy => ?_⟩
  · rcases key i x hx with ⟨_, h1⟩ | ⟨_, rfl⟩
    · exact at'.other (h.each i x h1) (own_unlikeQ h.row (h.each i x h1) (by decide))
    · exact at'.other ho (own_unlikeQ h.row ho (by decide))
  · rcases key i x hx with ⟨_, h1⟩ | ⟨_, rfl⟩
    · exact h.rise i x h1
    · exact hr
  · rcases key i x hx with ⟨l1, h1⟩ | ⟨l1, rfl⟩
    · rcases key j y hy with ⟨l2, h2⟩ | ⟨l2, rfl⟩
      · exact h.dis i j x y hij h1 h2
      · exact hd i x h1
    · rcases key j y hy with ⟨l2, h2⟩ | ⟨l2, rfl⟩
      · exact (hd j y h2).symm
      · omega
end
/-- What Sessions tells. -/
def tellS (L : List (Option Ses)) (m : Nat) : List (Nat × Nat × List (List Nat)) := (List.range m).filterMap fun (i : Nat) => (atS L (i : Int)).map fun σ => (i, σ.busy, σ.ks)
theorem tellS_succ (L : List (Option Ses)) (m : Nat) : tellS L (m + 1) = tellS L m ++ (((atS L m).map fun σ => (m, σ.busy, σ.ks)).toList) := by
  unfold tellS
  rw [List.range_succ, List.filterMap_append]
  congr 1
def SessP (w : World) (L : List (Option Ses)) (e : Ending) (w' : World) : Prop :=
  ∃ A c l, e = .returned (.slice A l.length c) ∧ SesL w' w.heap.size A c l ∧ l.map seOf = tellS L 16 ∧ Below w.heap.size w w'
set_option maxRecDepth 100000 in
set_option maxHeartbeats 2000000 in
theorem pSessions_any (w : World) (p : Nat) (L : List (Option Ses)) (h : PinsAt w p L) (hn : ∀ (i : Nat) σ, L[i]? = some (some σ) → σ.ks.length ≤ 4398046511104) :
    Calls Try.prog 34 #[.pointer (some ⟨p, 0, none⟩)] w (SessP w L) := by
  have h' := Lib.hid h
  have hn' := Lib.hid hn
  obtain ⟨Q, hQ⟩ : ∃ Q, SessP w L = Q := ⟨_, rfl⟩
  have hfin : Hid (∀ A c l W, SesL W w.heap.size A c l → l.map seOf = tellS L 16 → Below w.heap.size w W → Q (.returned (.slice A l.length c)) W) := Lib.hid fun A c l W h1 h2 h3 => by
    rw [← hQ]
    exact ⟨A, c, l, rfl, h1, h2, h3⟩
  rw [hQ]
  clear h hn hQ
  go_enter Try.func34, Try.ntmps34
  go_wp2_with fail
  go_loopw [3, 6] (fun ov iv wr => ∃ (k n : Nat) (A5 : Option Addr) (c5 : Nat) (l : List SE), k ≤ 16 ∧ n ≤ k ∧ ov = .slice A5 n c5 ∧ iv = .int .i64 (k : Int) ∧ Hid (SesL wr w.heap.size A5 c5 l) ∧ Hid (l.length = n) ∧ Hid (Below w.heap.size w wr) ∧ Hid (l.map seOf = tellS L k)) (fun _ iv _ => 16 - (intOf iv).toNat)
  case atStart => exact ⟨0, 0, none, 0, [], by omega, by omega, rfl, rfl, Lib.hid (SesL.nil _ _), Lib.hid rfl, Lib.hid (Below.refl _ _), Lib.hid rfl⟩
  case round =>
    obtain ⟨k, n, A5, c5, l, hk, hnk, rfl, rfl, hs0, hn', hb, htl⟩ := hrel
    rename Hid (∀ (i : Nat) σ, L[i]? = some (some σ) → σ.ks.length ≤ 4398046511104) => hnn
    by_cases hlt : k < 16
    · have hp := Lib.hid (h'.out.below hb.out (Nat.le_refl _))
      have ho := Lib.hid (pOpen_any wr p L hp.out k)
      have hg := h'.out.get hlt
      have htk0 := Lib.hid (tellS_succ L k)
      generalize atS L (k : Int) = y at ho hg htk0
      cases y with
      | none =>
        have htk : Hid (tellS L (k + 1) = tellS L k) := Lib.hid (by rw [htk0.out]; simp)
        simp only [sptr] at ho
        clear hg htk0
        go_wp2_with (go_at_call 20; refine ho.out.mono ?_; rintro e w5 ⟨rfl, h5⟩; have h6 := h5.symm; clear h5; subst h6; clear ho)
        go_roundw
        case rel => exact ⟨k + 1, n, A5, c5, l, by omega, by omega, rfl, by go_num, hs0, hn', hb, Lib.hid (by rw [htl.out, htk.out])⟩
        case measure => simp [intOf]; omega
      | some σ =>
        have htk : Hid (tellS L (k + 1) = tellS L k ++ [(k, σ.busy, σ.ks)]) := Lib.hid (by rw [htk0.out]; simp)
        have hses := h'.out.ses k σ hg
        have hlts := Lib.hid hses.lts
        have hc0 : Hid (∀ W, Below w.heap.size w W → W.cell? ⟨σ.sb, 1, none⟩ = some (.int .i64 (σ.busy : Int)) ∧ W.cell? ⟨σ.sb, 0, none⟩ = some (.pointer (some ⟨σ.kb, 0, none⟩))) := Lib.hid fun W hW => by
          have h1 := (hW.block _ hlts.out.1).trans hses.1
          unfold World.cell?
          simp [h1]
        have hlen := Lib.hid (hnn.out k σ hg)
        have hAll : Hid (∀ W, Below w.heap.size w W → Calls Try.prog 46 #[.pointer (some ⟨σ.kb, 0, none⟩)] W (AllP W σ.ks)) := Lib.hid fun W hW =>
          allK_any W σ.kb σ.mb σ.n σ.ks (hses.2.keep (hW.block _ hlts.out.2.1) (hW.block _ hlts.out.2.2)) (by have := hlen.out; omega)
        have hrise := Lib.hid hses.2.rise
        have hCol : Hid (∀ W gI cI AI, AllAt W gI AI cI σ.ks → Calls Try.prog 45 #[.func (.func 50) #[] #[.pointer (some ⟨gI, 0, none⟩)]] W (ColP W σ.ks)) := Lib.hid fun W gI cI AI hat => collect_any W gI cI AI σ.ks hat hrise.out hlen.out
        simp only [sptr] at ho
        unfold ColP at hCol
        obtain ⟨sb, hsb0⟩ : ∃ sb, σ.sb = sb := ⟨_, rfl⟩
        obtain ⟨kb, hkb0⟩ : ∃ kb, σ.kb = kb := ⟨_, rfl⟩
        obtain ⟨bz, hbz0⟩ : ∃ bz, σ.busy = bz := ⟨_, rfl⟩
        obtain ⟨ks, hks0⟩ : ∃ ks, σ.ks = ks := ⟨_, rfl⟩
        obtain ⟨N1, hN1⟩ : ∃ N1, ks.length = N1 := ⟨_, rfl⟩
        rw [hsb0, hbz0, hkb0] at hc0
        rw [hsb0] at ho
        rw [hkb0, hks0] at hAll
        rw [hks0, hN1] at hCol
        rw [hks0] at hrise hlen
        rw [hks0, hbz0] at htk
        have hN1' := Lib.hid hN1
        have hs : Hid (SesL wr.drew w.heap.size A5 c5 l) := Lib.hid (hs0.out.below (below_drewN (Below.refl _ _) 1))
        have hd : Hid (Below w.heap.size w wr.drew) := Lib.hid (below_drewN hb.out 1)
        clear hg htk0 hses hlts hsb0 hkb0 hbz0 hks0 hN1 hs0
        go_wp2_with (go_at_call 20; refine ho.out.mono ?_; rintro e w5 ⟨rfl, h5⟩; have h6 := h5.symm; clear h5; subst h6; clear ho)
        refine wp_region_held (S := fun W => Below w.heap.size w W) (by kernel_rfl) ?_
        change wpAnyH _ _ _ _ _ _ _ _ (World.drew _)
        refine tk (i := 0) (d := 14) (v := (.slice A5 n c5)) rfl rfl (Or.inl ⟨by rfl, by intro W hW; clear hW; go_simp⟩) hd.out ?_
        simp only [List.setIfInBounds_toArray, List.set_cons_zero, List.set_cons_succ]
        refine tk (i := 1) (d := 15) (v := (.int .i64 (k : Int))) rfl rfl (Or.inl ⟨by rfl, by intro W hW; clear hW; go_simp⟩) hd.out ?_
        simp only [List.setIfInBounds_toArray, List.set_cons_zero, List.set_cons_succ]
        refine tk (i := 2) (d := 16) (v := (.pointer (some ⟨sb, 0, none⟩))) rfl rfl (Or.inl ⟨by rfl, by intro W hW; clear hW; go_simp⟩) hd.out ?_
        simp only [List.setIfInBounds_toArray, List.set_cons_zero, List.set_cons_succ]
        refine tk (i := 3) (d := 17) (v := (.pointer (some ⟨sb, 0, none⟩))) rfl rfl (Or.inl ⟨by rfl, by intro W hW; clear hW; go_simp⟩) hd.out ?_
        simp only [List.setIfInBounds_toArray, List.set_cons_zero, List.set_cons_succ]
        refine tk (i := 4) (d := 18) (v := (.pointer (some ⟨sb, 1, none⟩))) rfl rfl (Or.inl ⟨by rfl, by intro W hW; clear hW; go_simp⟩) hd.out ?_
        simp only [List.setIfInBounds_toArray, List.set_cons_zero, List.set_cons_succ]
        refine tk (i := 5) (d := 19) (v := (.int .i64 (bz : Int))) rfl rfl (Or.inl ⟨by rfl, by intro W hW; have cc := (hc0.out W hW).1; clear hW; go_simp⟩) hd.out ?_
        simp only [List.setIfInBounds_toArray, List.set_cons_zero, List.set_cons_succ]
        refine tk (i := 6) (d := 20) (v := (.pointer (some ⟨sb, 0, none⟩))) rfl rfl (Or.inl ⟨by rfl, by intro W hW; clear hW; go_simp⟩) hd.out ?_
        simp only [List.setIfInBounds_toArray, List.set_cons_zero, List.set_cons_succ]
        refine tk (i := 7) (d := 21) (v := (.pointer (some ⟨sb, 0, none⟩))) rfl rfl (Or.inl ⟨by rfl, by intro W hW; clear hW; go_simp⟩) hd.out ?_
        simp only [List.setIfInBounds_toArray, List.set_cons_zero, List.set_cons_succ]
        refine tk (i := 8) (d := 22) (v := (.pointer (some ⟨sb, 0, none⟩))) rfl rfl (Or.inl ⟨by rfl, by intro W hW; clear hW; go_simp⟩) hd.out ?_
        simp only [List.setIfInBounds_toArray, List.set_cons_zero, List.set_cons_succ]
        refine tk (i := 9) (d := 23) (v := (.pointer (some ⟨kb, 0, none⟩))) rfl rfl (Or.inl ⟨by rfl, by intro W hW; have cc := (hc0.out W hW).2; clear hW; go_simp⟩) hd.out ?_
        simp only [List.setIfInBounds_toArray, List.set_cons_zero, List.set_cons_succ]
        refine wpAnyH_ready (rs := [10]) (by kernel_rfl) (by simp) ?_
        refine AllReadyH.cons rfl (fun K hK => ?_) AllReadyH.nil
        go_simp
        refine (hAll.out _ hd.out).mono ?_
        rintro e va ⟨gI, AI, cI, rfl, hat, qa, _, _⟩
        have hda : Hid (Below w.heap.size w va) := Lib.hid (hd.out.trans (qa.mono hd.out.size))
        have hsa := Lib.hid (hs.out.below qa)
        have hat' := Lib.hid hat
        clear qa hat
        refine hK.out _ _ hda.out (fun _ => ?_)
        clear hK K
        refine wpAnyH_ready (rs := [11]) (by kernel_rfl) (by simp) ?_
        refine AllReadyH.cons rfl (fun K hK => ?_) AllReadyH.nil
        go_simp
        refine (hCol.out _ gI cI AI hat'.out).mono ?_
        rintro e vd ⟨A1, c1, rfl, oc, qc⟩
        have hdd : Hid (Below w.heap.size w vd) := Lib.hid (hda.out.trans (qc.mono hda.out.size))
        have hsd := Lib.hid (hsa.out.below qc)
        have hdi : Hid (∀ (i : Nat) x, l[i]? = some x → Dis x.A A1) := Lib.hid fun i x hx => Dis.of_lt (m := va.heap.size) (fun j hj => ((hsa.out.each i x hx).lt j hj).2) (fun j hj => (oc.lt j hj).1)
        have hoc : Hid (Own vd w.heap.size 29 32 A1 N1 c1 (rowsK ks)) := Lib.hid (oc.base hda.out.size)
        clear qc oc
        have hbld := bldSes k bz A1 N1 c1
        have hbld := Lib.hid hbld
        refine hK.out _ _ hdd.out (fun _ => ?_)
        clear hK K
        refine tk (i := 12) (d := 26) (v := (.agg #[.int .i64 (k : Int), .int .i64 (bz : Int), .slice A1 N1 c1])) rfl rfl (Or.inl ⟨by rfl, by intro W hW; have hb := hbld.out; clear hW; go_simp⟩) hdd.out ?_
        simp only [List.setIfInBounds_toArray, List.set_cons_zero, List.set_cons_succ]
        refine wpAnyH_ready (rs := [13]) (by kernel_rfl) (by simp) ?_
        refine AllReadyH.cons rfl (fun K hK => ?_) AllReadyH.nil
        have hbs := fun W => run_bslice (P := Try.prog) W 70 85 1 #[(0, .agg #[.int .i64 (k : Int), .int .i64 (bz : Int), .slice A1 N1 c1])] _ Try.underlying70 (builtSes k bz A1 N1 c1)
        go_simp
        clear hbs
        obtain ⟨vb, hvb⟩ : ∃ v, World.alloc vd (.cells #[.int .i64 (k : Int), .int .i64 (bz : Int), .slice A1 N1 c1] 85) = v := ⟨_, rfl⟩
        have qb : Below vd.heap.size vd vb := by rw [← hvb]; exact (Below.refl _ _).alloc (Nat.le_refl _) _
        have hdb : Hid (Below w.heap.size w vb) := Lib.hid (hdd.out.trans (qb.mono hdd.out.size))
        have hsb := Lib.hid (hsd.out.below qb)
        have hob := Lib.hid (hoc.out.below qb (fun j hj => (hoc.out.lt j hj).2))
        have hnw : vb.heap[vd.heap.size]? = some (.cells #[.int .i64 (k : Int), .int .i64 (bz : Int), .slice A1 N1 c1] 85 (0, 0)) := by rw [← hvb]; exact heap_alloc_new vd _
        obtain ⟨nb, hnb⟩ : ∃ j, vd.heap.size = j := ⟨_, rfl⟩
        rw [hnb] at hnw ⊢
        rw [hvb]
        have hnw' := Lib.hid hnw
        clear qb hvb hnb hnw
        refine hK.out _ _ hdb.out (fun _ => ?_)
        clear hK K
        refine wpAnyH_ready (rs := [14]) (by kernel_rfl) (by simp) ?_
        refine AllReadyH.cons rfl (fun K hK => ?_) AllReadyH.nil
        have hro := hsb.out.row
        rw [hn'.out] at hro
        have hrd : Rd vb (nb + 1) (some ⟨nb, 0, none⟩) (1 * 3) (fun j => #[Value.int .i64 (k : Int), Value.int .i64 (bz : Int), Value.slice A1 N1 c1].toList[j]?.getD undef) := fun _ => by
          refine ⟨nb, 0, rfl, by omega, fun j hj => ?_⟩
          rw [cell_of_row vb nb (0 + j) _ _ _ hnw'.out]
          rcases (show j = 0 ∨ j = 1 ∨ j = 2 by omega) with rfl | rfl | rfl <;> rfl
        obtain ⟨A6, c6, vc, hrun, o6, at6⟩ := run_app (P := Try.prog) elSes 70 vb hro (c2 := 1) hrd (fun j hj => by rcases (show j = 0 ∨ j = 1 ∨ j = 2 by omega) with rfl | rfl | rfl <;> rfl) (by unfold maxLen; omega) (by omega) hdb.out.size
        clear hrd
        refine step_appQ rfl _ _ rfl _ _ rfl rfl _ _ hrun ?_
        clear hrun
        have hdc : Hid (Below w.heap.size w vc) := Lib.hid (hdb.out.trans (at6.below hro hdb.out.size))
        have hsc : Hid (SesL vc w.heap.size A6 c6 (l ++ [⟨k, bz, ks, A1, c1⟩])) := Lib.hid (hsb.out.snoc (e := ⟨k, bz, ks, A1, c1⟩) (by rw [← hN1'.out] at hob; exact hob.out) hrise.out hdi.out (by
          have e : rowsE (l ++ [⟨k, bz, ks, A1, c1⟩]) = rowsE l ++ (List.range (1 * 3)).map (fun j => #[Value.int .i64 (k : Int), Value.int .i64 (bz : Int), Value.slice A1 N1 c1].toList[j]?.getD undef) := by
            unfold rowsE
            rw [List.flatMap_append]
            congr 1
            simp [encE, List.range_succ, hN1'.out]
          rw [e, hn'.out]
          exact o6) at6)
        clear hro o6 at6
        refine hK.out _ _ hdc.out (fun _ => ?_)
        clear hK K
        refine tk (i := 15) (d := 3) (v := (.slice A6 (n + 1) c6)) rfl rfl (Or.inl ⟨by rfl, by intro W hW; clear hW; go_simp⟩) hdc.out ?_
        simp only [List.setIfInBounds_toArray, List.set_cons_zero, List.set_cons_succ]
        refine wpAnyH_done (by kernel_rfl) ?_ _
        have hdz := hdc
        go_wp2_with fail
        go_roundw
        case rel => exact ⟨k + 1, n + 1, A6, c6, _, by omega, by omega, rfl, by go_num, hsc, Lib.hid (by simp [hn'.out]), hdz, Lib.hid (by rw [List.map_append, htl.out, htk.out]; rfl)⟩
        case measure => simp [intOf]; omega
    · obtain rfl : k = 16 := by omega
      have hf := Lib.hid (hfin.out A5 c5 l wr hs0.out htl.out hb.out)
      rw [hn'.out] at hf
      go_wp2_with fail
      exact hf.out
set_option maxRecDepth 100000 in
set_option maxHeartbeats 2000000 in
theorem rSessions_any (w : World) (q : Nat) (f : Nat → RSes) (L : List (Option Ses)) (h : RefAt w q f) (hL : Rel L f) (hn : ∀ i, i < 16 → (f i).ks.length ≤ 4398046511104) :
    Calls Try.prog 42 #[.pointer (some ⟨q, 0, none⟩)] w (SessP w L) := by
  have h' := Lib.hid h
  have hnn := Lib.hid hn
  have hL' := Lib.hid hL
  obtain ⟨Q, hQ⟩ : ∃ Q, SessP w L = Q := ⟨_, rfl⟩
  have hfin : Hid (∀ A c l W, SesL W w.heap.size A c l → l.map seOf = tellS L 16 → Below w.heap.size w W → Q (.returned (.slice A l.length c)) W) := Lib.hid fun A c l W h1 h2 h3 => by
    rw [← hQ]
    exact ⟨A, c, l, rfl, h1, h2, h3⟩
  rw [hQ]
  clear h hn hL hQ
  go_enter Try.func42, Try.ntmps42
  go_wp2_with fail
  go_loopw [3, 4] (fun ov iv wr => ∃ (k n : Nat) (A5 : Option Addr) (c5 : Nat) (l : List SE), k ≤ 16 ∧ n ≤ k ∧ ov = .slice A5 n c5 ∧ iv = .int .i64 (k : Int) ∧ Hid (SesL wr w.heap.size A5 c5 l) ∧ Hid (l.length = n) ∧ Hid (Below w.heap.size w wr) ∧ Hid (l.map seOf = tellS L k)) (fun _ iv _ => 16 - (intOf iv).toNat)
  case atStart => exact ⟨0, 0, none, 0, [], by omega, by omega, rfl, rfl, Lib.hid (SesL.nil _ _), Lib.hid rfl, Lib.hid (Below.refl _ _), Lib.hid rfl⟩
  case round =>
    obtain ⟨k, n, A5, c5, l, hk, hnk, rfl, rfl, hs0, hn', hb, htl⟩ := hrel
    by_cases hlt : k < 16
    · have hR := h'.out.below hb.out (Nat.le_refl _)
      have c0 := hR.cop hlt
      have hg := hL'.out.get hlt
      have htk0 := Lib.hid (tellS_succ L k)
      have hone := hL'.out.2 k _ hg
      have hk0 : (0 : Int) ≤ (k : Int) := by omega
      have hk1 : (k : Int) < 16 := by omega
      generalize atS L (k : Int) = y at hg htk0 hone
      cases y with
      | none =>
        have htk : Hid (tellS L (k + 1) = tellS L k) := Lib.hid (by rw [htk0.out]; simp)
        rw [show f k = ⟨false, 0, [], none, 0⟩ from hone] at c0
        clear hg htk0 hR hone
        go_wp2_with fail
        go_roundw
        case rel => exact ⟨k + 1, n, A5, c5, l, by omega, by omega, rfl, by go_num, hs0, hn', hb, Lib.hid (by rw [htl.out, htk.out])⟩
        case measure => simp [intOf]; omega
      | some σ =>
        obtain ⟨o1, o2, o3⟩ := hone
        have htk : Hid (tellS L (k + 1) = tellS L k ++ [(k, (f k).busy, (f k).ks)]) := Lib.hid (by rw [htk0.out, o2, o3]; simp)
        rw [o1] at c0
        have hcb : Hid (∀ W, Below w.heap.size w W → W.cell? ⟨q, 16 + k, none⟩ = some (.int .i64 ((f k).busy : Int))) := Lib.hid fun W hW => (h'.out.below hW (Nat.le_refl _)).cbusy hlt
        have c2 := hR.cks hlt
        have hrow := Lib.hid (hR.row k hlt)
        have hrise := Lib.hid (hR.rise k hlt)
        have hlen := hnn.out k hlt
        clear hg htk0 hR o1 o2 o3
        generalize (f k).busy = bz at hcb htk
        generalize (f k).A = A0 at c2 hrow
        generalize (f k).c = c0' at c2 hrow
        generalize (f k).ks = ks at c2 hrow hrise hlen htk
        obtain ⟨N1, hN1⟩ : ∃ N1, ks.length = N1 := ⟨_, rfl⟩
        rw [hN1] at c2 hrow hlen
        have hN1' := Lib.hid hN1
        have hone : Hid (∀ j, j < N1 * 32 → ((rowsK ks)[j]?.getD undef).oneCell' = true) := Lib.hid fun j hj => by
          have hl := hrow.out.len
          have hj' : j < (rowsK ks).length := by omega
          rw [List.getElem?_eq_getElem hj', Option.getD_some]
          exact rowsK_one' _ (List.getElem_mem hj')
        have hys : Hid ((List.nil : List Value) ++ (List.range (N1 * 32)).map (fun j => (rowsK ks)[j]?.getD undef) = rowsK ks) := Lib.hid (by
          have hl := hrow.out.len
          rw [List.nil_append]
          apply List.ext_getElem
          · simp [hl]
          · intro j h1 h2
            simp [h2])
        clear hN1
        go_wp2_with (first
          | (at_builtin; refine wpList_app elK _ rfl _ _ rfl rfl (Own.nil _ wr.heap.size _ _) rfl hrow.out.rd hone.out (by unfold maxLen; omega) (by omega) (Nat.le_refl _) N1 (by omega) (rowsK ks) hys.out ?_
             intro A1 c1 w1 o1 at1 b1
             have o1' := Lib.hid o1
             have b1' := Lib.hid b1
             have hd1 := Lib.hid (hb.out.trans (b1.mono hb.out.size))
             have hs1 := Lib.hid (hs0.out.below b1)
             have cb1 := hcb.out w1 hd1.out
             have hoc : Hid (Own w1 w.heap.size 29 32 A1 N1 c1 (rowsK ks)) := Lib.hid (o1.base hb.out.size)
             have hdi : Hid (∀ (i : Nat) x, l[i]? = some x → Dis x.A A1) := Lib.hid fun i x hx => Dis.of_lt (m := wr.heap.size) (fun j hj => ((hs0.out.each i x hx).lt j hj).2) (fun j hj => (o1.lt j hj).1)
             have hro : Hid (Own w1 w.heap.size 85 3 A5 n c5 (rowsE l)) := Lib.hid (by have := hs1.out.row; rwa [hn'.out] at this)
             have hse : Hid (rowsE l ++ #[Value.int .i64 (k : Int), Value.int .i64 (bz : Int), Value.slice A1 N1 c1].toList = rowsE (l ++ [⟨k, bz, ks, A1, c1⟩])) := Lib.hid (by unfold rowsE; rw [List.flatMap_append]; congr 1; simp [encE, hN1'.out])
             clear o1 at1 b1 hrow hys)
          | (at_builtin; refine wpList_app1 elSes w1 #[.int .i64 (k : Int), .int .i64 (bz : Int), .slice A1 N1 c1] rfl rfl _ _ rfl rfl hro.out rfl (by intro u hu; simp at hu; rcases hu with rfl | rfl | rfl <;> rfl) (by unfold maxLen; omega) (by omega) hd1.out.size (n + 1) rfl _ hse.out ?_
             intro A6 c6 w6 o6 at6 b6
             have hd6 := Lib.hid (hd1.out.trans b6)
             have hsc : Hid (SesL w6 w.heap.size A6 c6 (l ++ [⟨k, bz, ks, A1, c1⟩])) := Lib.hid (hs1.out.snoc (e := ⟨k, bz, ks, A1, c1⟩) (by have := hoc.out; rw [← hN1'.out] at this; exact this) hrise.out hdi.out (by rw [hn'.out]; exact o6) at6)
             clear o6 at6 b6))
        go_roundw
        case rel => exact ⟨k + 1, n + 1, A6, c6, _, by omega, by omega, rfl, by go_num, hsc, Lib.hid (by simp [hn'.out]), hd6, Lib.hid (by rw [List.map_append, htl.out, htk.out]; rfl)⟩
        case measure => simp [intOf]; omega
    · obtain rfl : k = 16 := by omega
      have hf := Lib.hid (hfin.out A5 c5 l wr hs0.out htl.out hb.out)
      rw [hn'.out] at hf
      go_wp2_with fail
      exact hf.out
end Go.Proofs.Ytgjokkjmljdmbaa
