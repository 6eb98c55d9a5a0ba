/- Pins: Next. (Printed by tools/genpn2.py.) -/
import Derived.Test.YtgjokkjmljdmbaaPnW
namespace Go.Proofs.Ytgjokkjmljdmbaa
open Go.RowKit Go.Maps
set_option linter.unusedSimpArgs false
set_option linter.unusedVariables false

section
variable {P : Program} {ops : Array Oper} {rest : List Oper} {o : Oper} {a : Act} {w : World} {K : Act → World → Prop} {Q : Exit → Act → World → Prop} {E : Prop}
theorem step_store_rowN (hgd : o.guard = none) (ty : TypeId) (x y : Operand) (ho : o.op = .store ty x y)
    (g : Nat) (cells : Array Value) (hx : a.eval x = .pointer (some ⟨g, 0, none⟩)) (hy : a.eval y = .agg cells)
    (t : TypeId) (old : Array Value) (hg : w.heap[g]? = some (.cells old t (0, 0))) (hi : (P.info? ty).map (·.size) = some cells.size)
    (hold : old.size = cells.size) (h1 : cells.all (·.oneCell') = true)
    (h : K (a.put o.dst undef) (w.setRow g cells)) : if Region.wanted o (yielded ops a.tmps) = true then Oper.wp P o a w K Q else E := by
  rw [if_pos (by simp [Region.wanted, hgd])]
  exact wp_store_row ty x y ho g cells hx hy t old hg hi hold h1 h
theorem wpList_blN (hg : o.guard = none) (t : TypeId) (parts : Array (Nat × Operand)) (ho : o.op = .build t parts) (vs : Array (Nat × Value)) (hv : (parts.map fun (i, x) => (i, a.eval x)) = vs) (v : Value)
    (hr : ∀ w, (Instr.build t vs).run P w = .ok v w) (h : wpList P ops Q rest (a.put o.dst v) w) : wpList P ops Q (o :: rest) a w :=
  wpList_plain hg fun K hK => by
    unfold Oper.wp execOp
    simp only [ho, hv, Sem.run_bind, hr w, Result.andThen_ok, Sem.run_pure]
    exact hK _ _ h
end
/-- A weaker word on the world: what a store into the answer's block leaves. -/
structure PkN2 (g : Nat) (kv : Array Value) (σ : Ses) (W : World) : Prop where
  key : W.heap[g]? = some (.cells kv 29 (0, 0))
  ses : SesAt W σ
theorem PkN2.cel {W : World} {g : Nat} {kv : Array Value} {σ : Ses} (h : PkN2 g kv σ W) : W.cell? ⟨σ.sb, 0, none⟩ = some (.pointer (some ⟨σ.kb, 0, none⟩)) := by
  unfold World.cell?
  simp [h.ses.1]
theorem zeroKN (w : World) : (Instr.build 29 #[]).run Try.prog w = .ok (.agg (u8s (zeros 32)).toArray) w :=
  run_build w _ _ _ (by kernel_rfl)
theorem PkS.set {w1 W : World} {g g8 : Nat} {kv : Array Value} {σ : Ses} (kr : Array Value) (h : PkS w1 g kv σ W) (h1 : g ≠ g8) (h2 : σ.sb ≠ g8) (h3 : σ.kb ≠ g8) (h4 : σ.mb ≠ g8) : PkN2 g kv σ (W.setRow g8 kr) :=
  ⟨(setRow_other _ _ _ _ h1).trans h.key, h.ses.keep (setRow_other _ _ _ _ h2) (setRow_other _ _ _ _ h3) (setRow_other _ _ _ _ h4)⟩
/-- What Next tells of a session. -/
def nextS (y : Option Ses) (any : Bool) (af : List Nat) : Option (List Nat) := y.bind fun σ => σ.ks.find? (passK any af)
def PNextP (w : World) (y : Option Ses) (any : Bool) (af : List Nat) (e : Ending) (w' : World) : Prop :=
  e = .returned (.tuple #[.agg (u8s ((nextS y any af).getD (zeros 32))).toArray, .bool (nextS y any af).isSome]) ∧ Below w.heap.size w w'
set_option maxRecDepth 100000 in
set_option maxHeartbeats 1000000 in
theorem pNext_any (w : World) (p : Nat) (L : List (Option Ses)) (h : PinsAt w p L) (s : Int) (af : List Nat) (hx : IsK af) (any : Bool) :
    Calls Try.prog 8 #[.pointer (some ⟨p, 0, none⟩), .int .i64 s, .agg (u8s af).toArray, .bool any] w (PNextP w (atS L s) any af) := by
  obtain ⟨g, hg⟩ : ∃ g, w.heap.size = g := ⟨_, rfl⟩
  obtain ⟨w1, hw1⟩ : ∃ w1, (w.alloc (.cells (u8s af).toArray 29)).alloc (.cells (u8s (zeros 32)).toArray 29) = w1 := ⟨_, rfl⟩
  have hB : Hid (Below w.heap.size w w1) := Lib.hid (by rw [← hw1]; exact ((Below.refl _ _).alloc (Nat.le_refl _) _).alloc (by simp) _)
  have h1 : PinsAt w1 p L := h.below hB.out (Nat.le_refl _)
  have ho := Lib.hid (pOpen_any w1 p L h1 s)
  have hi32 : Hid ((Try.prog.info? 29).map (·.size) = some 32) := Lib.hid (by kernel_rfl)
  have hs32 : Hid ((u8s af).toArray.size = 32) := Lib.hid (by simp [u8s, hx.1])
  have hzk := zeroKy
  have hk1 : Hid (w1.heap[g]? = some (.cells (u8s af).toArray 29 (0, 0))) := Lib.hid (by rw [← hw1, ← hg, heap_alloc_old _ _ (by simp)]; exact heap_alloc_new w _)
  obtain ⟨g8, hg8e⟩ : ∃ g8, g + 1 = g8 := ⟨_, rfl⟩
  have hz1 : Hid (w1.heap[g8]? = some (.cells (u8s (zeros 32)).toArray 29 (0, 0))) := Lib.hid (by
    rw [← hw1, ← hg8e, ← hg]
    have := heap_alloc_new (w.alloc (.cells (u8s af).toArray 29)) (.cells (u8s (zeros 32)).toArray 29)
    simpa using this)
  have hg8 : Hid (w.heap.size ≤ g8) := Lib.hid (by omega)
  have hgne : Hid (g ≠ g8) := Lib.hid (by omega)
  have hbel : ∀ {W : World}, Below w1.heap.size w1 W → Below w.heap.size w W := fun h => hB.out.trans (h.mono hB.out.size)
  have hses : Hid (∀ σ, atS L s = some σ → SesAt w1 σ ∧ σ.sb < w.heap.size ∧ σ.kb < w.heap.size ∧ σ.mb < w.heap.size) := Lib.hid fun σ hσ => by
    obtain ⟨k, _, _, hk⟩ := h1.atS_some hσ
    exact ⟨h1.ses k σ hk, (h.ses k σ hk).lts⟩
  have hz8r := Lib.hid (fun kr : Array Value => setRow_heap w1 g8 _ kr 29 _ hz1.out)
  have hw1' := Lib.hid hw1
  unfold PNextP
  generalize atS L s = y at ho hses ⊢
  clear h h1
  cases y with
  | none =>
    simp only [sptr, nextS, Option.bind_none, Option.getD_none, Option.isSome_none] at ho ⊢
    clear hses
    have hzz : Hid ((u8s (zeros 32)).toArray.size = 32) := Lib.hid (by simp [u8s, zeros])
    have hres := hz8r.out (u8s (zeros 32)).toArray
    have hbF := Lib.hid (setRow_below hB.out hg8.out (u8s (zeros 32)).toArray)
    have hres' := Lib.hid hres
    clear hres hw1
    go_enter Try.func8, Try.ntmps8
    go_wp2_with (first
      | (go_at_call 20; rw [hw1'.out]; refine ho.out.mono ?_; rintro e w5 ⟨rfl, h5⟩; have h6 := h5.symm; clear h5; subst h6; clear ho)
      | (refine wpList_blN rfl 29 _ rfl #[] (by rfl) _ (fun W => zeroKN W) ?_)
      | (refine wpList_store_row rfl 29 _ _ rfl g8 (u8s (zeros 32)).toArray rfl rfl 29 _ hz1.out (by rw [hzz.out]; exact hi32.out) rfl (all_oneCell_toArray u8s_one) ?_))
    refine bodyPost_ret (res_row_tmp rfl _ _ g8 29 _ (0, 0) _ (.bool false) rfl rfl hres'.out Try.underlying29 rfl (by rw [hzz.out]; exact hi32.out)) rfl ?_
    exact ⟨rfl, hbF.out⟩
  | some σ =>
    obtain ⟨hS1, ls⟩ := hses.out σ rfl
    have ls' := Lib.hid ls
    have hd0 : Hid (PkS w1 g (u8s af).toArray σ w1) := Lib.hid ⟨Below.refl _ _, hk1.out, hS1⟩
    simp only [sptr, nextS, Option.bind_some] at ho ⊢
    obtain ⟨R, hR⟩ : ∃ R, σ.ks.find? (passK any af) = R := ⟨_, rfl⟩
    have hrise := hS1.2.rise
    have hRk : IsK (R.getD (zeros 32)) := by
      rw [← hR]
      cases hf : σ.ks.find? (passK any af) with
      | none => exact ⟨by simp [zeros], by simp [zeros]⟩
      | some z => exact hrise.ok z (List.mem_of_find?_eq_some hf)
    have hN0 : ∀ W, PkS w1 g (u8s af).toArray σ W → Calls Try.prog 21 #[.pointer (some ⟨σ.kb, 0, none⟩), .agg (u8s af).toArray, .bool any] W fun e w' => e = .returned (.tuple #[.agg (u8s (R.getD (zeros 32))).toArray, .bool R.isSome]) ∧ Below W.heap.size W w' := fun W hW => by
      rw [← hR]
      exact nextK_any W _ _ _ _ hW.ses.2 any af hx
    rw [hR]
    obtain ⟨kv, hkv⟩ : ∃ kv, (u8s af).toArray = kv := ⟨_, rfl⟩
    obtain ⟨kr, hkr⟩ : ∃ kr, (u8s (R.getD (zeros 32))).toArray = kr := ⟨_, rfl⟩
    obtain ⟨F, hF⟩ : ∃ F, R.isSome = F := ⟨_, rfl⟩
    have hr32 : Hid (kr.size = 32) := Lib.hid (by rw [← hkr]; simp [u8s, hRk.1])
    have hzr : Hid ((u8s (zeros 32)).toArray.size = kr.size) := Lib.hid (by rw [hr32.out]; simp [u8s, zeros])
    have hone : Hid (kr.all (·.oneCell') = true) := Lib.hid (by rw [← hkr]; exact all_oneCell_toArray u8s_one)
    rw [hkv] at hk1 hs32 hw1 hw1' hd0 hN0 ⊢
    rw [hkr, hF] at hN0 ⊢
    have hN := Lib.hid hN0
    clear hses hS1 ls hR hrise hRk hN0 hkv hkr hF hw1
    go_enter Try.func8, Try.ntmps8
    go_wp2_with (go_at_call 20; rw [hw1'.out]; refine ho.out.mono ?_; rintro e w5 ⟨rfl, h5⟩; have h6 := h5.symm; clear h5; subst h6; clear ho)
    have hds : Hid (PkS w1 g kv σ w1.drew) := Lib.hid hd0.out.drew
    have hd : Hid (PkN2 g kv σ w1.drew) := Lib.hid ⟨hds.out.key, hds.out.ses⟩
    refine wp_region_held (S := PkN2 g kv σ) (by kernel_rfl) ?_
    change wpAnyH _ _ _ _ _ _ _ _ (World.drew _)
    refine tk (i := 0) (d := 17) (v := (.pointer (some ⟨σ.sb, 0, none⟩))) rfl rfl (Or.inl ⟨by rfl, by intro W hW; clear hW; go_simp⟩) hd.out ?_
    simp only [List.setIfInBounds_toArray, List.set_cons_zero, List.set_cons_succ]
    refine tk (i := 1) (d := 18) (v := (.pointer (some ⟨σ.sb, 0, none⟩))) rfl rfl (Or.inl ⟨by rfl, by intro W hW; clear hW; go_simp⟩) hd.out ?_
    simp only [List.setIfInBounds_toArray, List.set_cons_zero, List.set_cons_succ]
    refine tk (i := 2) (d := 19) (v := (.pointer (some ⟨σ.sb, 0, none⟩))) rfl rfl (Or.inl ⟨by rfl, by intro W hW; clear hW; go_simp⟩) hd.out ?_
    simp only [List.setIfInBounds_toArray, List.set_cons_zero, List.set_cons_succ]
    refine tk (i := 3) (d := 20) (v := (.pointer (some ⟨σ.kb, 0, none⟩))) rfl rfl (Or.inl ⟨by rfl, by intro W hW; have c := hW.cel; clear hW; go_simp⟩) hd.out ?_
    simp only [List.setIfInBounds_toArray, List.set_cons_zero, List.set_cons_succ]
    refine tk (i := 4) (d := 21) (v := (.agg kv)) rfl rfl (yieldsIf_load_row (by rfl) 29 _ rfl g rfl 29 kv (0, 0) _ (fun W hW => hW.key) Try.underlying29 rfl (by rw [hs32.out]; exact hi32.out)) hd.out ?_
    simp only [List.setIfInBounds_toArray, List.set_cons_zero, List.set_cons_succ]
    refine tk (i := 5) (d := 22) (v := (.bool any)) rfl rfl (Or.inl ⟨by rfl, by intro W hW; clear hW; go_simp⟩) hd.out ?_
    simp only [List.setIfInBounds_toArray, List.set_cons_zero, List.set_cons_succ]
    refine wpAnyH_ready (rs := [6]) (by kernel_rfl) (by simp) ?_
    refine AllReadyH.cons rfl (fun K hK => ?_) AllReadyH.nil
    go_simp
    go_wp2_with (go_at_call 21; refine (hN.out _ hds.out).mono ?_; rintro e v1 ⟨rfl, b1⟩; have b1' := Lib.hid b1; clear b1)
    have hd1s := Lib.hid (hds.out.below b1'.out)
    have hd1 : Hid (PkN2 g kv σ v1) := Lib.hid ⟨hd1s.out.key, hd1s.out.ses⟩
    have hz8 := Lib.hid ((b1'.out.block _ (Array.getElem?_eq_some_iff.1 hz1.out).1).trans hz1.out)
    refine hK.out _ _ hd1.out (fun _ => ?_)
    clear hK K
    refine tk (i := 7) (d := 24) (v := (.agg kr)) rfl rfl (Or.inl ⟨by rfl, by intro W hW; clear hW; go_simp⟩) hd1.out ?_
    simp only [List.setIfInBounds_toArray, List.set_cons_zero, List.set_cons_succ]
    refine tk (i := 8) (d := 25) (v := (.bool F)) rfl rfl (Or.inl ⟨by rfl, by intro W hW; clear hW; go_simp⟩) hd1.out ?_
    simp only [List.setIfInBounds_toArray, List.set_cons_zero, List.set_cons_succ]
    refine wpAnyH_ready (rs := [9]) (by kernel_rfl) (by simp) ?_
    refine AllReadyH.cons rfl (fun K hK => ?_) AllReadyH.nil
    refine step_store_rowN rfl 29 _ _ rfl g8 kr rfl rfl 29 (u8s (zeros 32)).toArray hz8.out (by rw [hr32.out]; exact hi32.out) hzr.out hone.out ?_
    have hd2 : Hid (PkN2 g kv σ (v1.setRow g8 kr)) := Lib.hid (hd1s.out.set kr hgne.out (Nat.ne_of_lt (Nat.lt_of_lt_of_le ls'.out.1 hg8.out)) (Nat.ne_of_lt (Nat.lt_of_lt_of_le ls'.out.2.1 hg8.out)) (Nat.ne_of_lt (Nat.lt_of_lt_of_le ls'.out.2.2 hg8.out)))
    have hres := Lib.hid (setRow_heap v1 g8 _ kr 29 _ hz8.out)
    have hbF : Hid (Below w.heap.size w (v1.setRow g8 kr)) := Lib.hid (setRow_below (hbel hd1s.out.bel) hg8.out _)
    refine hK.out _ _ hd2.out (fun _ => ?_)
    clear hK K
    refine tk (i := 10) (d := 9) (v := (.bool F)) rfl rfl (Or.inl ⟨by rfl, by intro W hW; clear hW; go_simp⟩) hd2.out ?_
    simp only [List.setIfInBounds_toArray, List.set_cons_zero, List.set_cons_succ]
    refine wpAnyH_done (by kernel_rfl) ?_ _
    go_wp2_with fail
    refine bodyPost_ret (res_row_tmp rfl _ _ g8 29 _ (0, 0) _ (.bool F) rfl rfl hres.out Try.underlying29 rfl (by rw [hr32.out]; exact hi32.out)) rfl ?_
    exact ⟨rfl, hbF.out⟩
end Go.Proofs.Ytgjokkjmljdmbaa
