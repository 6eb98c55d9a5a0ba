/- Pins: New, Open, Close, Enter, Leave. (Printed by tools/genpn3.py.) -/
import Derived.Test.YtgjokkjmljdmbaaPnN
import Derived.Test.YtgjokkjmljdmbaaPnA
namespace Go.Proofs.Ytgjokkjmljdmbaa
open Go.RowKit Go.Maps
set_option linter.unusedSimpArgs false
set_option linter.unusedVariables false

def AnyW (_ : World) : Prop := True
/-- A place of the table written over. -/
theorem PinsAt.put {w w' : World} {p : Nat} {L : List (Option Ses)} {k : Nat} {y : Option Ses} (h : PinsAt w p L) (hk : k < 16) (hb : Below w.heap.size w w') (hy : ∀ σ, y = some σ → SesAt w' σ ∧ w.heap.size ≤ σ.sb ∧ w.heap.size ≤ σ.mb ∧ w.heap.size ≤ σ.kb) :
    PinsAt (w'.setCell ⟨p, 1 + k, none⟩ (sptr y)) p (L.set k y) ∧ Upd (Wr p L) w (w'.setCell ⟨p, 1 + k, none⟩ (sptr y)) := by
  have h' := h.below hb (Nat.le_refl _)
  have hu : Upd (Wr p L) w (w'.setCell ⟨p, 1 + k, none⟩ (sptr y)) := (Upd.of_below hb).trans (Upd.set w' (p := ⟨p, 1 + k, none⟩) (.inl rfl) _)
  have hlt := h.lt
  refine ⟨⟨by rw [List.length_set]; exact h.len, ?_, fun i σ hi => ?_, fun a b ρ ρ' hab ha hb' => ?_⟩, hu⟩
  · rw [heap_setCell_same w' p (1 + k) _ _ (sptr y) h'.cells]
    unfold pcells
    rw [List.map_set]
    simp [Nat.add_comm 1 k]
  · rw [List.getElem?_set] at hi
    split at hi
    · have hl : k < L.length := by rw [h.len]; exact hk
      simp only [hl, if_true, Option.some.injEq] at hi
      obtain ⟨hs, l1, l2, l3⟩ := hy σ hi
      exact hs.keep (heap_setCell_other w' _ _ _ (by simp; omega)) (heap_setCell_other w' _ _ _ (by simp; omega)) (heap_setCell_other w' _ _ _ (by simp; omega))
    · obtain ⟨u1, u2, u3⟩ := h'.unlike hi
      exact (h'.ses i σ hi).keep (heap_setCell_other w' _ _ _ u1.symm) (heap_setCell_other w' _ _ _ u2.symm) (heap_setCell_other w' _ _ _ u3.symm)
  · have hl : k < L.length := by rw [h.len]; exact hk
    rw [List.getElem?_set] at ha hb'
    split at ha
    · rename_i ea
      subst ea
      simp only [hl, if_true, Option.some.injEq] at ha
      obtain ⟨_, l1, l2, l3⟩ := hy ρ ha
      split at hb'
      · rename_i eb; exact absurd eb hab
      · obtain ⟨m1, m2, m3⟩ := (h.ses b ρ' hb').lts
        exact ⟨by omega, by omega⟩
    · split at hb'
      · rename_i eb
        subst eb
        simp only [hl, if_true, Option.some.injEq] at hb'
        obtain ⟨_, l1, l2, l3⟩ := hy ρ' hb'
        obtain ⟨m1, m2, m3⟩ := (h.ses a ρ ha).lts
        exact ⟨by omega, by omega⟩
      · exact h.sep _ _ _ _ hab ha hb'
theorem buildP (w : World) : (Instr.build 53 #[(0, .bool true)]).run Try.prog w = .ok (.agg (pcells (List.replicate 16 none)).toArray) w :=
  run_build w _ _ _ (by kernel_rfl)
theorem buildS (k : Option Addr) (w : World) : (Instr.build 57 #[(0, .pointer k)]).run Try.prog w = .ok (.agg #[.pointer k, .int .i64 0]) w :=
  run_build w _ _ _ (by kernel_rfl)
theorem pinsAt_new (w : World) : PinsAt (w.alloc (.cells (pcells (List.replicate 16 none)).toArray 53)) w.heap.size (List.replicate 16 none) :=
  ⟨by simp, heap_alloc_new w _, (fun i σ hi => by rw [List.getElem?_replicate] at hi; split at hi <;> cases hi), (fun i j σ τ _ hi => by rw [List.getElem?_replicate] at hi; split at hi <;> cases hi)⟩
def PNewP (w : World) (e : Ending) (w' : World) : Prop := e = .returned (.pointer (some ⟨w.heap.size, 0, none⟩)) ∧ PinsAt w' w.heap.size (List.replicate 16 none) ∧ Below w.heap.size w w'
set_option maxRecDepth 100000 in
theorem pNew_any (w : World) : Calls Try.prog 5 #[] w (PNewP w) := by
  have hfin : Hid (PNewP w (.returned (.pointer (some ⟨w.heap.size, 0, none⟩))) (w.alloc (.cells (pcells (List.replicate 16 none)).toArray 53))) := Lib.hid ⟨rfl, pinsAt_new w, (Below.refl _ _).alloc (Nat.le_refl _) _⟩
  obtain ⟨Q, hQ⟩ : ∃ Q, PNewP w = Q := ⟨_, rfl⟩
  obtain ⟨cs, hcs⟩ : ∃ cs, (pcells (List.replicate 16 none)).toArray = cs := ⟨_, rfl⟩
  have hb := buildP
  rw [hQ] at hfin ⊢
  rw [hcs] at hfin hb
  have hb' := Lib.hid hb
  clear hQ hcs hb
  go_enter Try.func5, Try.ntmps5
  go_wp2_with (refine wpList_blN rfl 53 _ rfl #[(0, .bool true)] (by rw [List.map_toArray]; rfl) _ (fun W => hb'.out W) ?_)
  exact hfin.out
/-- A session just opened. -/
structure Fresh (B : Nat) (σ : Ses) : Prop where
  ks : σ.ks = []
  busy : σ.busy = 0
  n : σ.n = 0
  lo : B ≤ σ.sb ∧ B ≤ σ.mb ∧ B ≤ σ.kb
def POpenP (w : World) (p : Nat) (L : List (Option Ses)) (k : Nat) (e : Ending) (w' : World) : Prop :=
  e = .returned (.int .i64 0) ∧ ∃ σ, Fresh w.heap.size σ ∧ PinsAt w' p (L.set k (some σ)) ∧ Upd (Wr p L) w w'
set_option maxRecDepth 100000 in
set_option maxHeartbeats 1000000 in
theorem pOpen_new (w : World) (p : Nat) (L : List (Option Ses)) (h : PinsAt w p L) (k : Nat) (hk : k < 16) (hy : atS L k = none) :
    Calls Try.prog 6 #[.pointer (some ⟨p, 0, none⟩), .int .i64 (k : Int)] w (POpenP w p L k) := by
  have hl := Lib.hid (pLive_any w p L h)
  have c1 := h.cell1 (h.get hk)
  rw [hy] at c1
  simp only [sptr] at c1
  have hk0 : (0 : Int) ≤ (k : Int) := by omega
  have hk1 : (k : Int) < 16 := by omega
  have hp : PinsAt w.drew p L := ⟨h.len, h.cells, h.ses, h.sep⟩
  have hN : Hid (Calls Try.prog 17 #[.slice none 0 0] w.drew fun e w' => e = .returned (.pointer (some ⟨w.heap.size + 1, 0, none⟩)) ∧ SetK w' (w.heap.size + 1) w.heap.size 0 [] ∧ Below w.heap.size w.drew w') := Lib.hid (newK_any w.drew none [] 0 0 rfl (by omega) (KeyRow.nil _ _))
  have hfin : Hid (∀ v1, SetK v1 (w.heap.size + 1) w.heap.size 0 [] → Below w.heap.size w.drew v1 → POpenP w p L k (.returned (.int .i64 0)) ((v1.alloc (.cells #[.pointer (some ⟨w.heap.size + 1, 0, none⟩), .int .i64 0] 57)).setCell ⟨p, 1 + k, none⟩ (.pointer (some ⟨v1.heap.size, 0, none⟩)))) := Lib.hid fun v1 a b => by
    obtain ⟨σ, hσ⟩ : ∃ σ : Ses, σ = ⟨v1.heap.size, w.heap.size + 1, w.heap.size, 0, 0, []⟩ := ⟨_, rfl⟩
    have hb2 : Below w.heap.size w (v1.alloc (.cells #[.pointer (some ⟨w.heap.size + 1, 0, none⟩), .int .i64 0] 57)) :=
      (⟨b.os, b.tape, b.output, b.size, b.block⟩ : Below w.heap.size w v1).alloc b.size _
    have hs : SesAt (v1.alloc (.cells #[.pointer (some ⟨w.heap.size + 1, 0, none⟩), .int .i64 0] 57)) σ := by
      subst hσ
      have l := a.lts
      exact ⟨heap_alloc_new v1 _, a.keep (heap_alloc_old _ _ l.1) (heap_alloc_old _ _ l.2)⟩
    have hlo : w.heap.size ≤ v1.heap.size := b.size
    have := h.put hk hb2 (y := some σ) (fun τ hτ => by cases hτ; subst hσ; exact ⟨hs, hlo, Nat.le_refl _, Nat.le_succ _⟩)
    refine ⟨rfl, σ, by subst hσ; exact ⟨rfl, rfl, rfl, hlo, Nat.le_refl _, Nat.le_succ _⟩, ?_, ?_⟩
    · have h2 := this.1; subst hσ; exact h2
    · have h2 := this.2; subst hσ; exact h2
  have hcel : Hid (∀ v1, Below w.heap.size w.drew v1 → (v1.alloc (.cells #[.pointer (some ⟨w.heap.size + 1, 0, none⟩), .int .i64 0] 57)).cell? ⟨p, 1 + k, none⟩ = some (.pointer none) ∧ (v1.alloc (.cells #[.pointer (some ⟨w.heap.size + 1, 0, none⟩), .int .i64 0] 57)).frozen? ⟨p, 1 + k, none⟩ = false) := Lib.hid fun v1 b => by
    have h2 : PinsAt (v1.alloc (.cells #[.pointer (some ⟨w.heap.size + 1, 0, none⟩), .int .i64 0] 57)) p L := hp.below (b.alloc b.size _) (Nat.le_refl _)
    have := h2.cell1 (h2.get hk)
    rw [hy] at this
    exact ⟨this, h2.frozen _⟩
  have hbld := Lib.hid buildS
  have hd : Hid (AnyW w) := Lib.hid trivial
  obtain ⟨Q, hQ⟩ : ∃ Q, POpenP w p L k = Q := ⟨_, rfl⟩
  rw [hQ] at hfin ⊢
  clear hQ h hp hy hk
  go_enter Try.func6, Try.ntmps6
  go_wp2_with (go_at_call 16; refine hl.out.mono ?_; rintro e w5 ⟨rfl, h5⟩; have h6 := h5.symm; clear h5; subst h6; clear hl)
  refine wp_region_held (S := AnyW) (by kernel_rfl) ?_
  change wpAnyH _ _ _ _ _ _ _ _ (World.drew _)
  refine tk (i := 0) (d := 24) (v := (.pointer (some ⟨p, 0, none⟩))) rfl rfl (Or.inl ⟨by rfl, by intro W hW; clear hW; go_simp⟩) hd.out ?_
  simp only [List.setIfInBounds_toArray, List.set_cons_zero, List.set_cons_succ]
  refine tk (i := 1) (d := 25) (v := (.int .i64 (k : Int))) rfl rfl (Or.inl ⟨by rfl, by intro W hW; clear hW; go_simp⟩) hd.out ?_
  simp only [List.setIfInBounds_toArray, List.set_cons_zero, List.set_cons_succ]
  refine tk (i := 5) (d := 29) (v := (.pointer (some ⟨p, 0, none⟩))) rfl rfl (Or.inl ⟨by rfl, by intro W hW; clear hW; go_simp⟩) hd.out ?_
  simp only [List.setIfInBounds_toArray, List.set_cons_zero, List.set_cons_succ]
  refine tk (i := 6) (d := 30) (v := (.pointer (some ⟨p, 1, none⟩))) rfl rfl (Or.inl ⟨by rfl, by intro W hW; clear hW; go_simp⟩) hd.out ?_
  simp only [List.setIfInBounds_toArray, List.set_cons_zero, List.set_cons_succ]
  refine wpAnyH_ready (rs := [2]) (by kernel_rfl) (by simp) ?_
  refine AllReadyH.cons rfl (fun K hK => ?_) AllReadyH.nil
  go_simp
  go_wp2_with (go_at_call 17; refine hN.out.mono ?_; rintro e v1 ⟨rfl, a1⟩; have a1' := Lib.hid a1; clear a1)
  refine hK.out _ _ hd.out (fun _ => ?_)
  clear hK K
  refine tk (i := 3) (d := 27) (v := (.agg #[.pointer (some ⟨w.heap.size + 1, 0, none⟩), .int .i64 0])) rfl rfl (Or.inl ⟨by rfl, by intro W hW; have hb := hbld.out; clear hW; go_simp⟩) hd.out ?_
  simp only [List.setIfInBounds_toArray, List.set_cons_zero, List.set_cons_succ]
  refine wpAnyH_ready (rs := [4]) (by kernel_rfl) (by simp) ?_
  refine AllReadyH.cons rfl (fun K hK => ?_) AllReadyH.nil
  go_simp
  have hfs := Lib.hid (hfin.out v1 a1'.out.1 a1'.out.2)
  obtain ⟨c2, f2⟩ := hcel.out v1 a1'.out.2
  refine hK.out _ _ hd.out (fun _ => ?_)
  clear hK K
  refine tk (i := 7) (d := 31) (v := (.pointer (some ⟨p, 1 + k, none⟩))) rfl rfl (Or.inl ⟨by rfl, by intro W hW; clear hW; go_simp⟩) hd.out ?_
  simp only [List.setIfInBounds_toArray, List.set_cons_zero, List.set_cons_succ]
  refine wpAnyH_ready (rs := [8]) (by kernel_rfl) (by simp) ?_
  refine AllReadyH.cons rfl (fun K hK => ?_) AllReadyH.nil
  go_simp
  refine hK.out _ _ hd.out (fun _ => ?_)
  clear hK K
  refine wpAnyH_done (by kernel_rfl) ?_ _
  go_wp2_with fail
  exact hfs.out
set_option maxRecDepth 100000 in
theorem pOpen_no (w : World) (p : Nat) (L : List (Option Ses)) (h : PinsAt w p L) (s : Int) (hs : ¬ (0 ≤ s ∧ s < 16) ∨ (∃ σ, atS L s = some σ)) :
    Calls Try.prog 6 #[.pointer (some ⟨p, 0, none⟩), .int .i64 s] w fun e w' => e = .returned (.int .i64 (if 0 ≤ s ∧ s < 16 then 141 else 140)) ∧ w' = w := by
  have hl := Lib.hid (pLive_any w p L h)
  by_cases h0 : s < 0
  · rw [if_neg (by omega)]
    clear h hs
    go_enter Try.func6, Try.ntmps6
    go_wp2_with (go_at_call 16; refine hl.out.mono ?_; rintro e w5 ⟨rfl, rfl⟩)
    go_ret
    exact ⟨rfl, rfl⟩
  · by_cases h1 : s < 16
    · rw [if_pos (by omega)]
      obtain ⟨k, rfl⟩ : ∃ k : Nat, s = k := ⟨s.toNat, by omega⟩
      have hk : k < 16 := by omega
      have c1 := h.cell1 (h.get hk)
      rcases hs with hs | ⟨σ, hσ⟩
      · omega
      rw [hσ] at c1
      simp only [sptr] at c1
      have hk0 : (0 : Int) ≤ (k : Int) := by omega
      have hk1 : (k : Int) < 16 := by omega
      clear h h0 h1 hσ
      go_enter Try.func6, Try.ntmps6
      go_wp2_with (go_at_call 16; refine hl.out.mono ?_; rintro e w5 ⟨rfl, rfl⟩)
      go_ret
      exact ⟨rfl, rfl⟩
    · rw [if_neg (by omega)]
      have h2 : 0 ≤ s := by omega
      have h3 : 16 ≤ s := by omega
      clear h hs
      go_enter Try.func6, Try.ntmps6
      go_wp2_with (go_at_call 16; refine hl.out.mono ?_; rintro e w5 ⟨rfl, rfl⟩)
      go_ret
      exact ⟨rfl, rfl⟩
/-- Close: what it answers, what stands behind it. -/
def closeE : Option Ses → Int
  | none => 140
  | some σ => if 0 < σ.busy then 142 else 0
def closeL (L : List (Option Ses)) (s : Int) : List (Option Ses) :=
  match atS L s with
  | none => L
  | some σ => if 0 < σ.busy then L else L.set s.toNat none
def PCloseP (w : World) (p : Nat) (L : List (Option Ses)) (s : Int) (e : Ending) (w' : World) : Prop :=
  e = .returned (.int .i64 (closeE (atS L s))) ∧ PinsAt w' p (closeL L s) ∧ Upd (Wr p L) w w'
set_option maxRecDepth 100000 in
theorem pClose_any (w : World) (p : Nat) (L : List (Option Ses)) (h : PinsAt w p L) (s : Int) :
    Calls Try.prog 23 #[.pointer (some ⟨p, 0, none⟩), .int .i64 s] w (PCloseP w p L s) := by
  have ho := Lib.hid (pFound_any w p L h s)
  have hcl : Hid (closeL L s = match atS L s with | none => L | some σ => if 0 < σ.busy then L else L.set s.toNat none) := Lib.hid rfl
  unfold PCloseP
  rw [hcl.out]
  clear hcl
  have hat : Hid (∀ σ, atS L s = some σ → ∃ k : Nat, s = k ∧ k < 16 ∧ L[k]? = some (some σ)) := Lib.hid fun σ => h.atS_some
  generalize atS L s = y at ho hat ⊢
  cases y with
  | none =>
    simp only [sptr, errS, closeE] at ho ⊢
    have hfin : Hid (PinsAt w p L ∧ Upd (Wr p L) w w) := Lib.hid ⟨h, Upd.refl _ _⟩
    clear h hat
    go_enter Try.func23, Try.ntmps23
    go_wp2_with (go_at_call 18; refine ho.out.mono ?_; rintro e w5 ⟨rfl, h5⟩; have h6 := h5.symm; clear h5; subst h6; clear ho)
    go_ret
    exact ⟨rfl, hfin.out⟩
  | some σ =>
    obtain ⟨k, rfl, hk, hL⟩ := hat.out σ rfl
    have hses := h.ses k σ hL
    have cb : w.cell? ⟨σ.sb, 1, none⟩ = some (.int .i64 (σ.busy : Int)) := by
      unfold World.cell?
      simp [hses.1]
    have c1 := h.cell1 hL
    have f1 := h.frozen (1 + k)
    simp only [sptr] at c1
    simp only [sptr, errS, closeE] at ho ⊢
    have hk0 : (0 : Int) ≤ (k : Int) := by omega
    have hk1 : (k : Int) < 16 := by omega
    by_cases hbusy : 0 < σ.busy
    · rw [if_pos hbusy, if_pos hbusy]
      have hfin : Hid (PinsAt w p L ∧ Upd (Wr p L) w w) := Lib.hid ⟨h, Upd.refl _ _⟩
      have hb1 : decide (0 < σ.busy) = true := decide_eq_true hbusy
      clear h hat hses
      go_enter Try.func23, Try.ntmps23
      go_wp2_with (go_at_call 18; refine ho.out.mono ?_; rintro e w5 ⟨rfl, h5⟩; have h6 := h5.symm; clear h5; subst h6; clear ho)
      go_ret
      exact ⟨rfl, hfin.out⟩
    · rw [if_neg hbusy, if_neg hbusy]
      have h0 : σ.busy = 0 := by omega
      have hfin : Hid (PinsAt (w.setCell ⟨p, 1 + k, none⟩ (.pointer none)) p (L.set k none) ∧ Upd (Wr p L) w (w.setCell ⟨p, 1 + k, none⟩ (.pointer none))) := Lib.hid (h.put hk (Below.refl _ _) (y := none) (fun σ hσ => by cases hσ))
      rw [h0] at cb
      rw [Int.toNat_natCast]
      clear h hat hses hbusy h0
      go_enter Try.func23, Try.ntmps23
      go_wp2_with (go_at_call 18; refine ho.out.mono ?_; rintro e w5 ⟨rfl, h5⟩; have h6 := h5.symm; clear h5; subst h6; clear ho)
      go_ret
      exact ⟨rfl, hfin.out⟩
end Go.Proofs.Ytgjokkjmljdmbaa
