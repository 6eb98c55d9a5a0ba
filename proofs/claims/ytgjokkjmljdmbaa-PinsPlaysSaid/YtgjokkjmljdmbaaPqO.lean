/- The document's Pins: New, IsOpen, Open, Close, Busy, Enter, Leave. -/
import Derived.Test.YtgjokkjmljdmbaaPqS
import Derived.BigRegion
namespace Go.Proofs.Ytgjokkjmljdmbaa
open Go.RowKit Go.Maps
set_option linter.unusedSimpArgs false
set_option linter.unusedVariables false

def f0R (_ : Nat) : RSes := ⟨false, 0, [], none, 0⟩
theorem buildR (w : World) : (Instr.build 67 #[]).run Try.prog w = .ok (.agg (rcells f0R).toArray) w :=
  run_build w _ _ _ (by kernel_rfl)
theorem refAt_new (w : World) : RefAt (w.alloc (.cells (rcells f0R).toArray 67)) w.heap.size f0R :=
  ⟨heap_alloc_new w _, fun _ _ => Own.nil _ _ _ _, fun _ _ => Rise32.nil⟩
def RNewQ (w : World) (e : Ending) (w' : World) : Prop := e = .returned (.pointer (some ⟨w.heap.size, 0, none⟩)) ∧ RefAt w' w.heap.size f0R ∧ Below w.heap.size w w'
set_option maxRecDepth 100000 in
theorem rNew_any (w : World) : Calls Try.prog 13 #[] w (RNewQ w) := by
  have hfin : Hid (RNewQ w (.returned (.pointer (some ⟨w.heap.size, 0, none⟩))) (w.alloc (.cells (rcells f0R).toArray 67))) := Lib.hid ⟨rfl, refAt_new w, (Below.refl _ _).alloc (Nat.le_refl _) _⟩
  obtain ⟨Q, hQ⟩ : ∃ Q, RNewQ w = Q := ⟨_, rfl⟩
  obtain ⟨cs, hcs⟩ : ∃ cs, (rcells f0R).toArray = cs := ⟨_, rfl⟩
  have hb := buildR
  rw [hQ] at hfin ⊢
  rw [hcs] at hfin hb
  have hb' := Lib.hid hb
  clear hQ hcs hb
  go_enter Try.func13, Try.ntmps13
  go_wp2_with (refine wpList_blN rfl 67 _ rfl #[] (by rw [List.map_toArray]; rfl) _ (fun W => hb'.out W) ?_)
  exact hfin.out
set_option maxRecDepth 100000 in
theorem rIsOpen_any (w : World) (q : Nat) (f : Nat → RSes) (h : RefAt w q f) (s : Int) :
    Calls Try.prog 37 #[.pointer (some ⟨q, 0, none⟩), .int .i64 s] w fun e w' => e = .returned (.bool (opR f s)) ∧ w' = w := by
  by_cases h0 : s < 0
  · have hr : Hid (opR f s = false) := Lib.hid (by unfold opR; rw [if_neg (by omega)])
    rw [hr.out]
    clear h
    go_enter Try.func37, Try.ntmps37
    go_wp2_with fail
    go_ret
    exact ⟨rfl, rfl⟩
  · by_cases h1 : s < 16
    · obtain ⟨k, rfl⟩ : ∃ k : Nat, s = k := ⟨s.toNat, by omega⟩
      have hk : k < 16 := by omega
      have c1 := h.cop hk
      rw [opR_nat f hk]
      generalize (f k).op = B at c1 ⊢
      have hk0 : (0 : Int) ≤ (k : Int) := by omega
      have hk1 : (k : Int) < 16 := by omega
      clear h h0 h1
      cases B
      all_goals
        go_enter Try.func37, Try.ntmps37
        go_wp2_with fail
        go_ret
        exact ⟨rfl, rfl⟩
    · have hr : Hid (opR f s = false) := Lib.hid (by unfold opR; rw [if_neg (by omega)])
      have h2 : 0 ≤ s := by omega
      have h3 : 16 ≤ s := by omega
      rw [hr.out]
      clear h
      go_enter Try.func37, Try.ntmps37
      go_wp2_with fail
      go_ret
      exact ⟨rfl, rfl⟩
set_option maxRecDepth 100000 in
theorem rOpen_no (w : World) (q : Nat) (f : Nat → RSes) (h : RefAt w q f) (s : Int) (hs : ¬ (0 ≤ s ∧ s < 16) ∨ opR f s = true) :
    Calls Try.prog 24 #[.pointer (some ⟨q, 0, none⟩), .int .i64 s] w fun e w' => e = .returned (.int .i64 (if 0 ≤ s ∧ s < 16 then 141 else 140)) ∧ w' = w := by
  by_cases h0 : s < 0
  · rw [if_neg (by omega)]
    clear h hs
    go_enter Try.func24, Try.ntmps24
    go_wp2_with fail
    go_ret
    exact ⟨rfl, rfl⟩
  · by_cases h1 : s < 16
    · rw [if_pos (by omega)]
      obtain ⟨k, rfl⟩ : ∃ k : Nat, s = k := ⟨s.toNat, by omega⟩
      have hk : k < 16 := by omega
      have c1 := h.cop hk
      rw [opR_nat f hk] at hs
      rw [show (f k).op = true by rcases hs with hs | hs; omega; exact hs] at c1
      have hk0 : (0 : Int) ≤ (k : Int) := by omega
      have hk1 : (k : Int) < 16 := by omega
      have hk2 : ¬ (15 : Int) < (k : Int) := by omega
      clear h h0 h1 hs
      go_enter Try.func24, Try.ntmps24
      go_wp2_with fail
      go_ret
      exact ⟨rfl, rfl⟩
    · rw [if_neg (by omega)]
      have h2 : 0 ≤ s := by omega
      have h3 : 15 < s := by omega
      clear h hs
      go_enter Try.func24, Try.ntmps24
      go_wp2_with fail
      go_ret
      exact ⟨rfl, rfl⟩
abbrev AtQ (q : Nat) : Nat → Prop := fun k => k = q
/-- What a call that writes its table leaves. -/
def RPost (w : World) (q : Nat) (f' : Nat → RSes) (v : Int) (e : Ending) (w' : World) : Prop := e = .returned (.int .i64 v) ∧ RefAt w' q f' ∧ Upd (AtQ q) w w'
set_option maxRecDepth 100000 in
theorem rOpen_new (w : World) (q : Nat) (f : Nat → RSes) (h : RefAt w q f) (k : Nat) (hk : k < 16) (ho : (f k).op = false) :
    Calls Try.prog 24 #[.pointer (some ⟨q, 0, none⟩), .int .i64 (k : Int)] w (RPost w q (updR f k { f k with op := true }) 0) := by
  have hfin : Hid (RPost w q (updR f k { f k with op := true }) 0 (.returned (.int .i64 0)) (w.setCell ⟨q, k, none⟩ (.bool true))) := Lib.hid ⟨rfl, h.setOp hk true, Upd.set (F := AtQ q) w (p := ⟨q, k, none⟩) rfl _⟩
  obtain ⟨Q, hQ⟩ : ∃ Q, RPost w q (updR f k { f k with op := true }) 0 = Q := ⟨_, rfl⟩
  rw [hQ] at hfin ⊢
  have c1 := h.cop hk
  rw [ho] at c1
  have f1 := h.frozen k
  have hk0 : (0 : Int) ≤ (k : Int) := by omega
  have hk1 : (k : Int) < 16 := by omega
  have hk2 : ¬ (15 : Int) < (k : Int) := by omega
  clear h hQ ho
  go_enter Try.func24, Try.ntmps24
  go_wp2_with fail
  exact hfin.out
set_option maxRecDepth 100000 in
theorem rClose_no (w : World) (q : Nat) (f : Nat → RSes) (h : RefAt w q f) (s : Int) (hs : opR f s = false) :
    Calls Try.prog 25 #[.pointer (some ⟨q, 0, none⟩), .int .i64 s] w fun e w' => e = .returned (.int .i64 140) ∧ w' = w := by
  have ho := rIsOpen_any w q f h s
  rw [hs] at ho
  have ho' := Lib.hid ho
  clear h ho hs
  go_enter Try.func25, Try.ntmps25
  go_wp2_with (go_at_call 37; refine ho'.out.mono ?_; rintro e w5 ⟨rfl, rfl⟩)
  go_ret
  exact ⟨rfl, rfl⟩
set_option maxRecDepth 100000 in
theorem rClose_busy (w : World) (q : Nat) (f : Nat → RSes) (h : RefAt w q f) (k : Nat) (hk : k < 16) (hs : (f k).op = true) (hb : 0 < (f k).busy) :
    Calls Try.prog 25 #[.pointer (some ⟨q, 0, none⟩), .int .i64 (k : Int)] w fun e w' => e = .returned (.int .i64 142) ∧ w' = w := by
  have ho := rIsOpen_any w q f h k
  rw [opR_nat f hk, hs] at ho
  have ho' := Lib.hid ho
  have c1 := h.cbusy hk
  generalize (f k).busy = m at c1 hb
  have hk0 : (0 : Int) ≤ (k : Int) := by omega
  have hk1 : (k : Int) < 16 := by omega
  have hm : decide (0 < m) = true := decide_eq_true hb
  clear h ho hs hb
  go_enter Try.func25, Try.ntmps25
  go_wp2_with (go_at_call 37; refine ho'.out.mono ?_; rintro e w5 ⟨rfl, h5⟩; have h6 := h5.symm; clear h5; subst h6; clear ho')
  go_ret
  exact ⟨rfl, rfl⟩
set_option maxRecDepth 100000 in
theorem rClose_ok (w : World) (q : Nat) (f : Nat → RSes) (h : RefAt w q f) (k : Nat) (hk : k < 16) (hs : (f k).op = true) (hb : (f k).busy = 0) :
    Calls Try.prog 25 #[.pointer (some ⟨q, 0, none⟩), .int .i64 (k : Int)] w (RPost w q (updR f k ⟨false, 0, [], none, 0⟩) 0) := by
  have ho := rIsOpen_any w q f h k
  rw [opR_nat f hk, hs] at ho
  have ho' := Lib.hid ho
  have h1 := h.setOp hk false
  have h2 := h1.setKs hk (Own.nil _ 0 _ _) Rise32.nil
  have e2 : updR (updR f k { f k with op := false }) k { updR f k { f k with op := false } k with ks := [], A := none, c := 0 } = updR f k ⟨false, 0, [], none, 0⟩ := by
    funext j
    by_cases e : j = k
    · subst e; simp [updR, hb]
    · simp [updR, e]
  rw [e2] at h2
  have hfin : Hid (RPost w q (updR f k ⟨false, 0, [], none, 0⟩) 0 (.returned (.int .i64 0)) ((w.setCell ⟨q, k, none⟩ (.bool false)).setCell ⟨q, 32 + k, none⟩ (.slice none 0 0))) := Lib.hid ⟨rfl, h2, (Upd.set (F := AtQ q) w (p := ⟨q, k, none⟩) rfl _).trans (Upd.set (F := AtQ q) _ (p := ⟨q, 32 + k, none⟩) rfl _)⟩
  obtain ⟨Q, hQ⟩ : ∃ Q, RPost w q (updR f k ⟨false, 0, [], none, 0⟩) 0 = Q := ⟨_, rfl⟩
  rw [hQ] at hfin ⊢
  have c0 := h.cop hk
  have c1 := h.cbusy hk
  have c2 := h1.cks hk
  rw [hb] at c1
  have f1 := h.frozen k
  have f2 := h1.frozen (32 + k)
  have hk0 : (0 : Int) ≤ (k : Int) := by omega
  have hk1 : (k : Int) < 16 := by omega
  clear h ho hs hb hQ h1 h2 e2
  go_enter Try.func25, Try.ntmps25
  go_wp2_with (go_at_call 37; refine ho'.out.mono ?_; rintro e w5 ⟨rfl, h5⟩; have h6 := h5.symm; clear h5; subst h6; clear ho')
  exact hfin.out
set_option maxRecDepth 100000 in
theorem rBusy_any (w : World) (q : Nat) (f : Nat → RSes) (h : RefAt w q f) (s : Int) (m : Nat) (hm : (opR f s = false ∧ m = 0) ∨ ∃ k : Nat, s = k ∧ k < 16 ∧ (f k).op = true ∧ (f k).busy = m) :
    Calls Try.prog 39 #[.pointer (some ⟨q, 0, none⟩), .int .i64 s] w fun e w' => e = .returned (.int .i64 (m : Int)) ∧ w' = w := by
  have ho := rIsOpen_any w q f h s
  rcases hm with ⟨hs, rfl⟩ | ⟨k, rfl, hk, hs, rfl⟩
  · rw [hs] at ho
    have ho' := Lib.hid ho
    clear h ho hs
    go_enter Try.func39, Try.ntmps39
    go_wp2_with (go_at_call 37; refine ho'.out.mono ?_; rintro e w5 ⟨rfl, rfl⟩)
    go_ret
    exact ⟨rfl, rfl⟩
  · rw [opR_nat f hk, hs] at ho
    have ho' := Lib.hid ho
    have c1 := h.cbusy hk
    have hk0 : (0 : Int) ≤ (k : Int) := by omega
    have hk1 : (k : Int) < 16 := by omega
    clear h ho hs
    generalize (f k).busy = m at c1 ⊢
    go_enter Try.func39, Try.ntmps39
    go_wp2_with (go_at_call 37; refine ho'.out.mono ?_; rintro e w5 ⟨rfl, h5⟩; have h6 := h5.symm; clear h5; subst h6; clear ho')
    go_ret
    exact ⟨rfl, rfl⟩
set_option maxRecDepth 100000 in
theorem rEnter_no (w : World) (q : Nat) (f : Nat → RSes) (h : RefAt w q f) (s : Int) (hs : opR f s = false) :
    Calls Try.prog 28 #[.pointer (some ⟨q, 0, none⟩), .int .i64 s] w fun e w' => e = .returned (.int .i64 140) ∧ w' = w := by
  have ho := rIsOpen_any w q f h s
  rw [hs] at ho
  have ho' := Lib.hid ho
  clear h ho hs
  go_enter Try.func28, Try.ntmps28
  go_wp2_with (go_at_call 37; refine ho'.out.mono ?_; rintro e w5 ⟨rfl, rfl⟩)
  go_ret
  exact ⟨rfl, rfl⟩
set_option maxRecDepth 100000 in
theorem rLeave_no (w : World) (q : Nat) (f : Nat → RSes) (h : RefAt w q f) (s : Int) (hs : opR f s = false) :
    Calls Try.prog 30 #[.pointer (some ⟨q, 0, none⟩), .int .i64 s] w fun e w' => e = .returned (.int .i64 140) ∧ w' = w := by
  have ho := rIsOpen_any w q f h s
  rw [hs] at ho
  have ho' := Lib.hid ho
  clear h ho hs
  go_enter Try.func30, Try.ntmps30
  go_wp2_with (go_at_call 37; refine ho'.out.mono ?_; rintro e w5 ⟨rfl, rfl⟩)
  go_ret
  exact ⟨rfl, rfl⟩
set_option maxRecDepth 100000 in
theorem rEnter_ok (w : World) (q : Nat) (f : Nat → RSes) (h : RefAt w q f) (k m : Nat) (hk : k < 16) (hs : (f k).op = true) (hb : (f k).busy = m) (hm : m < 4611686018427387904) :
    Calls Try.prog 28 #[.pointer (some ⟨q, 0, none⟩), .int .i64 (k : Int)] w (RPost w q (updR f k { f k with busy := m + 1 }) 0) := by
  have ho := rIsOpen_any w q f h k
  rw [opR_nat f hk, hs] at ho
  have ho' := Lib.hid ho
  have hfin : Hid (RPost w q (updR f k { f k with busy := m + 1 }) 0 (.returned (.int .i64 0)) (w.setCell ⟨q, 16 + k, none⟩ (.int .i64 ((m + 1 : Nat) : Int))).drew) := Lib.hid ⟨rfl, by
    have := h.setBusy hk (m + 1)
    exact ⟨this.cells, this.row, this.rise⟩, (Upd.set (F := AtQ q) w (p := ⟨q, 16 + k, none⟩) rfl _).drewN 1⟩
  obtain ⟨Q, hQ⟩ : ∃ Q, RPost w q (updR f k { f k with busy := m + 1 }) 0 = Q := ⟨_, rfl⟩
  rw [hQ] at hfin ⊢
  have c1 := h.cbusy hk
  rw [hb] at c1
  have f1 := h.frozen (16 + k)
  have hk0 : (0 : Int) ≤ (k : Int) := by omega
  have hk1 : (k : Int) < 16 := by omega
  rw [show ((m + 1 : Nat) : Int) = (m : Int) + 1 by omega] at hfin
  clear h ho hs hb hQ
  go_enter Try.func28, Try.ntmps28
  go_wp2_with (go_at_call 37; refine ho'.out.mono ?_; rintro e w5 ⟨rfl, h5⟩; have h6 := h5.symm; clear h5; subst h6; clear ho')
  go_region
  go_wp2_with fail
  exact hfin.out
set_option maxRecDepth 100000 in
theorem rLeave_0 (w : World) (q : Nat) (f : Nat → RSes) (h : RefAt w q f) (k : Nat) (hk : k < 16) (hs : (f k).op = true) (hb : (f k).busy = 0) :
    Calls Try.prog 30 #[.pointer (some ⟨q, 0, none⟩), .int .i64 (k : Int)] w fun e w' => e = .returned (.int .i64 3) ∧ w' = w := by
  have ho := rIsOpen_any w q f h k
  rw [opR_nat f hk, hs] at ho
  have ho' := Lib.hid ho
  have c1 := h.cbusy hk
  rw [hb] at c1
  have hk0 : (0 : Int) ≤ (k : Int) := by omega
  have hk1 : (k : Int) < 16 := by omega
  clear h ho hs hb
  go_enter Try.func30, Try.ntmps30
  go_wp2_with (go_at_call 37; refine ho'.out.mono ?_; rintro e w5 ⟨rfl, h5⟩; have h6 := h5.symm; clear h5; subst h6; clear ho')
  go_ret
  exact ⟨rfl, rfl⟩
set_option maxRecDepth 100000 in
theorem rLeave_ok (w : World) (q : Nat) (f : Nat → RSes) (h : RefAt w q f) (k m : Nat) (hk : k < 16) (hs : (f k).op = true) (hb : (f k).busy = m + 1) (hm : m < 4611686018427387904) :
    Calls Try.prog 30 #[.pointer (some ⟨q, 0, none⟩), .int .i64 (k : Int)] w (RPost w q (updR f k { f k with busy := m }) 0) := by
  have ho := rIsOpen_any w q f h k
  rw [opR_nat f hk, hs] at ho
  have ho' := Lib.hid ho
  have hfin : Hid (RPost w q (updR f k { f k with busy := m }) 0 (.returned (.int .i64 0)) (w.setCell ⟨q, 16 + k, none⟩ (.int .i64 (m : Int))).drew) := Lib.hid ⟨rfl, by
    have := h.setBusy hk m
    exact ⟨this.cells, this.row, this.rise⟩, (Upd.set (F := AtQ q) w (p := ⟨q, 16 + k, none⟩) rfl _).drewN 1⟩
  obtain ⟨Q, hQ⟩ : ∃ Q, RPost w q (updR f k { f k with busy := m }) 0 = Q := ⟨_, rfl⟩
  rw [hQ] at hfin ⊢
  have c1 := h.cbusy hk
  rw [hb] at c1
  have f1 := h.frozen (16 + k)
  have hk0 : (0 : Int) ≤ (k : Int) := by omega
  have hk1 : (k : Int) < 16 := by omega
  obtain ⟨M, hM⟩ : ∃ M, m + 1 = M := ⟨_, rfl⟩
  rw [hM] at c1
  have hz : ((M : Int) == 0) = false := by simp; omega
  have hM0 : ¬ M = 0 := by omega
  have hw : wrap64 ((M : Int) - 1) = (m : Int) := by unfold wrap64; omega
  clear h ho hs hb hQ hM
  go_enter Try.func30, Try.ntmps30
  go_wp2_with (go_at_call 37; refine ho'.out.mono ?_; rintro e w5 ⟨rfl, h5⟩; have h6 := h5.symm; clear h5; subst h6; clear ho')
  go_region
  go_wp2_with fail
  exact hfin.out
end Go.Proofs.Ytgjokkjmljdmbaa
