/- Pins: Enter, Leave, the program's and the document's. -/
import Derived.Test.YtgjokkjmljdmbaaPqC
namespace Go.Proofs.Ytgjokkjmljdmbaa
open Go.RowKit Go.Maps
set_option linter.unusedSimpArgs false
set_option linter.unusedVariables false

/-- A session's count is another. -/
theorem PinsAt.setBusy {w : World} {p : Nat} {L : List (Option Ses)} {k : Nat} {σ : Ses} (h : PinsAt w p L) (hk : L[k]? = some (some σ)) (m : Nat) :
    PinsAt (w.setCell ⟨σ.sb, 1, none⟩ (.int .i64 (m : Int))) p (L.set k (some { σ with busy := m })) ∧ Upd (Wr p L) w (w.setCell ⟨σ.sb, 1, none⟩ (.int .i64 (m : Int))) := by
  have hs := h.ses k σ hk
  have hu := hs.unlike
  refine ⟨h.turn (σ := σ) hk rfl rfl rfl ⟨?_, hs.2.keep (heap_setCell_other _ _ _ _ ?_) (heap_setCell_other _ _ _ _ ?_)⟩ (fun j _ h1 _ => heap_setCell_other _ _ _ _ ?_), Upd.set w (p := ⟨σ.sb, 1, none⟩) (.inr ⟨k, σ, hk, .inl rfl⟩) _⟩
  · rw [heap_setCell_same w σ.sb 1 _ _ _ hs.1]
    rfl
  · simp; exact Ne.symm hu.1
  · simp; exact Ne.symm hu.2.1
  · simp; exact fun e => h1 e
/-- What stands behind a call that may change a session. -/
def PPost (w : World) (p : Nat) (L L' : List (Option Ses)) (v : Int) (e : Ending) (w' : World) : Prop := e = .returned (.int .i64 v) ∧ PinsAt w' p L' ∧ Upd (Wr p L) w w'
set_option maxRecDepth 100000 in
theorem pEnter_no (w : World) (p : Nat) (L : List (Option Ses)) (h : PinsAt w p L) (s : Int) (hs : atS L s = none) :
    Calls Try.prog 27 #[.pointer (some ⟨p, 0, none⟩), .int .i64 s] w fun e w' => e = .returned (.int .i64 140) ∧ w' = w := by
  have ho := pFound_any w p L h s
  rw [hs] at ho
  simp only [sptr, errS] at ho
  have ho' := Lib.hid ho
  clear h ho hs
  go_enter Try.func27, Try.ntmps27
  go_wp2_with (go_at_call 18; refine ho'.out.mono ?_; rintro e w5 ⟨rfl, h5⟩; have h6 := h5.symm; clear h5; subst h6; clear ho')
  go_ret
  exact ⟨rfl, rfl⟩
set_option maxRecDepth 100000 in
theorem pLeave_no (w : World) (p : Nat) (L : List (Option Ses)) (h : PinsAt w p L) (s : Int) (hs : atS L s = none) :
    Calls Try.prog 29 #[.pointer (some ⟨p, 0, none⟩), .int .i64 s] w fun e w' => e = .returned (.int .i64 140) ∧ w' = w := by
  have ho := pFound_any w p L h s
  rw [hs] at ho
  simp only [sptr, errS] at ho
  have ho' := Lib.hid ho
  clear h ho hs
  go_enter Try.func29, Try.ntmps29
  go_wp2_with (go_at_call 18; refine ho'.out.mono ?_; rintro e w5 ⟨rfl, h5⟩; have h6 := h5.symm; clear h5; subst h6; clear ho')
  go_ret
  exact ⟨rfl, rfl⟩
set_option maxRecDepth 100000 in
theorem pEnter_ok (w : World) (p : Nat) (L : List (Option Ses)) (h : PinsAt w p L) (k : Nat) (hk : k < 16) (σ : Ses) (hL : L[k]? = some (some σ)) (hm : σ.busy < 4611686018427387904) :
    Calls Try.prog 27 #[.pointer (some ⟨p, 0, none⟩), .int .i64 (k : Int)] w (PPost w p L (L.set k (some { σ with busy := σ.busy + 1 })) 0) := by
  have ho := pFound_any w p L h k
  rw [show atS L (k : Int) = some σ by have := h.get hk; rw [hL] at this; exact (Option.some.inj this).symm] at ho
  simp only [sptr, errS] at ho
  have ho' := Lib.hid ho
  obtain ⟨b1, b2⟩ := h.setBusy hL (σ.busy + 1)
  have hfin : Hid (PPost w p L (L.set k (some { σ with busy := σ.busy + 1 })) 0 (.returned (.int .i64 0)) (w.setCell ⟨σ.sb, 1, none⟩ (.int .i64 ((σ.busy + 1 : Nat) : Int)))) := Lib.hid ⟨rfl, b1, b2⟩
  obtain ⟨Q, hQ⟩ : ∃ Q, PPost w p L (L.set k (some { σ with busy := σ.busy + 1 })) 0 = Q := ⟨_, rfl⟩
  rw [hQ] at hfin ⊢
  have cb : w.cell? ⟨σ.sb, 1, none⟩ = some (.int .i64 (σ.busy : Int)) := by
    unfold World.cell?
    simp [(h.ses k σ hL).1]
  have fb : w.frozen? ⟨σ.sb, 1, none⟩ = false := frozen_of_row _ _ _ _ _ (h.ses k σ hL).1
  rw [show ((σ.busy + 1 : Nat) : Int) = (σ.busy : Int) + 1 by omega] at hfin
  clear h ho hQ hL b1 b2
  go_enter Try.func27, Try.ntmps27
  go_wp2_with (go_at_call 18; refine ho'.out.mono ?_; rintro e w5 ⟨rfl, h5⟩; have h6 := h5.symm; clear h5; subst h6; clear ho')
  exact hfin.out
set_option maxRecDepth 100000 in
theorem pLeave_0 (w : World) (p : Nat) (L : List (Option Ses)) (h : PinsAt w p L) (k : Nat) (hk : k < 16) (σ : Ses) (hL : L[k]? = some (some σ)) (hm : σ.busy = 0) :
    Calls Try.prog 29 #[.pointer (some ⟨p, 0, none⟩), .int .i64 (k : Int)] w fun e w' => e = .returned (.int .i64 3) ∧ w' = w := by
  have ho := pFound_any w p L h k
  rw [show atS L (k : Int) = some σ by have := h.get hk; rw [hL] at this; exact (Option.some.inj this).symm] at ho
  simp only [sptr, errS] at ho
  have ho' := Lib.hid ho
  have cb : w.cell? ⟨σ.sb, 1, none⟩ = some (.int .i64 (σ.busy : Int)) := by
    unfold World.cell?
    simp [(h.ses k σ hL).1]
  rw [hm] at cb
  clear h ho hL hm
  go_enter Try.func29, Try.ntmps29
  go_wp2_with (go_at_call 18; refine ho'.out.mono ?_; rintro e w5 ⟨rfl, h5⟩; have h6 := h5.symm; clear h5; subst h6; clear ho')
  go_ret
  exact ⟨rfl, rfl⟩
set_option maxRecDepth 100000 in
theorem pLeave_ok (w : World) (p : Nat) (L : List (Option Ses)) (h : PinsAt w p L) (k m : Nat) (hk : k < 16) (σ : Ses) (hL : L[k]? = some (some σ)) (hm : σ.busy = m + 1) (hb : m < 4611686018427387904) :
    Calls Try.prog 29 #[.pointer (some ⟨p, 0, none⟩), .int .i64 (k : Int)] w (PPost w p L (L.set k (some { σ with busy := m })) 0) := by
  have ho := pFound_any w p L h k
  rw [show atS L (k : Int) = some σ by have := h.get hk; rw [hL] at this; exact (Option.some.inj this).symm] at ho
  simp only [sptr, errS] at ho
  have ho' := Lib.hid ho
  obtain ⟨b1, b2⟩ := h.setBusy hL m
  have hfin : Hid (PPost w p L (L.set k (some { σ with busy := m })) 0 (.returned (.int .i64 0)) (w.setCell ⟨σ.sb, 1, none⟩ (.int .i64 (m : Int)))) := Lib.hid ⟨rfl, b1, b2⟩
  obtain ⟨Q, hQ⟩ : ∃ Q, PPost w p L (L.set k (some { σ with busy := m })) 0 = Q := ⟨_, rfl⟩
  rw [hQ] at hfin ⊢
  have cb : w.cell? ⟨σ.sb, 1, none⟩ = some (.int .i64 (σ.busy : Int)) := by
    unfold World.cell?
    simp [(h.ses k σ hL).1]
  have fb : w.frozen? ⟨σ.sb, 1, none⟩ = false := frozen_of_row _ _ _ _ _ (h.ses k σ hL).1
  obtain ⟨M, hM⟩ : ∃ M, m + 1 = M := ⟨_, rfl⟩
  rw [hm, hM] at cb
  have hz : ((M : Int) == 0) = false := by simp; omega
  have hM0 : ¬ M = 0 := by omega
  have hw : wrap64 ((M : Int) - 1) = (m : Int) := by unfold wrap64; omega
  clear h ho hQ hL b1 b2 hM hm
  go_enter Try.func29, Try.ntmps29
  go_wp2_with (go_at_call 18; refine ho'.out.mono ?_; rintro e w5 ⟨rfl, h5⟩; have h6 := h5.symm; clear h5; subst h6; clear ho')
  exact hfin.out
end Go.Proofs.Ytgjokkjmljdmbaa
