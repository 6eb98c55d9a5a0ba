/- Pins: what reads only: live, open, found. -/
import Derived.Test.YtgjokkjmljdmbaaPnS
namespace Go.Proofs.Ytgjokkjmljdmbaa
open Go.RowKit Go.Maps
set_option linter.unusedSimpArgs false
set_option linter.unusedVariables false

set_option maxRecDepth 100000 in
theorem pLive_any (w : World) (p : Nat) (L : List (Option Ses)) (h : PinsAt w p L) :
    Calls Try.prog 16 #[.pointer (some ⟨p, 0, none⟩)] w fun e w' => e = .returned (.bool true) ∧ w' = w := by
  have c1 := h.cell0
  clear h
  go_enter Try.func16, Try.ntmps16
  go_wp2_with fail
  go_ret
  exact ⟨rfl, rfl⟩
set_option maxRecDepth 100000 in
theorem pOpen_any (w : World) (p : Nat) (L : List (Option Ses)) (h : PinsAt w p L) (s : Int) :
    Calls Try.prog 20 #[.pointer (some ⟨p, 0, none⟩), .int .i64 s] w fun e w' => e = .returned (sptr (atS L s)) ∧ w' = w := by
  have hl := Lib.hid (pLive_any w p L h)
  by_cases h0 : s < 0
  · have hr : Hid (sptr (atS L s) = .pointer none) := Lib.hid (by unfold atS; rw [if_neg (by omega)]; rfl)
    rw [hr.out]
    clear h
    go_enter Try.func20, Try.ntmps20
    go_wp2_with (go_at_call 16; refine hl.out.mono ?_; rintro e w5 ⟨rfl, rfl⟩)
    go_ret
    exact ⟨rfl, rfl⟩
  · by_cases h1 : s < 16
    · obtain ⟨k, rfl⟩ : ∃ k : Nat, s = k := ⟨s.toNat, by omega⟩
      have hk : k < 16 := by omega
      have c1 := h.cell1 (h.get hk)
      obtain ⟨x, hx⟩ : ∃ x, sptr (atS L k) = x := ⟨_, rfl⟩
      rw [hx] at c1 ⊢
      have hk0 : (0 : Int) ≤ (k : Int) := by omega
      have hk1 : (k : Int) < 16 := by omega
      clear h hx h0 h1
      go_enter Try.func20, Try.ntmps20
      go_wp2_with (go_at_call 16; refine hl.out.mono ?_; rintro e w5 ⟨rfl, rfl⟩)
      go_ret
      exact ⟨rfl, rfl⟩
    · have hr : Hid (sptr (atS L s) = .pointer none) := Lib.hid (by unfold atS; rw [if_neg (by omega)]; rfl)
      have h2 : 0 ≤ s := by omega
      have h3 : 16 ≤ s := by omega
      rw [hr.out]
      clear h
      go_enter Try.func20, Try.ntmps20
      go_wp2_with (go_at_call 16; refine hl.out.mono ?_; rintro e w5 ⟨rfl, rfl⟩)
      go_ret
      exact ⟨rfl, rfl⟩
def errS : Option Ses → Int
  | none => 140
  | some _ => 0
set_option maxRecDepth 100000 in
theorem pFound_any (w : World) (p : Nat) (L : List (Option Ses)) (h : PinsAt w p L) (s : Int) :
    Calls Try.prog 18 #[.pointer (some ⟨p, 0, none⟩), .int .i64 s] w fun e w' => e = .returned (.tuple #[sptr (atS L s), .int .i64 (errS (atS L s))]) ∧ w' = w := by
  have hl := Lib.hid (pLive_any w p L h)
  have ho := Lib.hid (pOpen_any w p L h s)
  clear h
  generalize atS L s = x at ho ⊢
  cases x
  all_goals
    simp only [sptr, errS] at ho ⊢
    go_enter Try.func18, Try.ntmps18
    go_wp2_with (first
      | (go_at_call 16; refine hl.out.mono ?_; rintro e w5 ⟨rfl, rfl⟩)
      | (go_at_call 20; refine ho.out.mono ?_; rintro e w5 ⟨rfl, rfl⟩))
    go_ret2
    exact ⟨rfl, rfl⟩
set_option maxRecDepth 100000 in
theorem pIsOpen_any (w : World) (p : Nat) (L : List (Option Ses)) (h : PinsAt w p L) (s : Int) :
    Calls Try.prog 32 #[.pointer (some ⟨p, 0, none⟩), .int .i64 s] w fun e w' => e = .returned (.bool (atS L s).isSome) ∧ w' = w := by
  have ho := Lib.hid (pOpen_any w p L h s)
  clear h
  generalize atS L s = x at ho ⊢
  cases x
  all_goals
    simp only [sptr] at ho ⊢
    go_enter Try.func32, Try.ntmps32
    go_wp2_with (go_at_call 20; refine ho.out.mono ?_; rintro e w5 ⟨rfl, rfl⟩)
    go_ret
    exact ⟨rfl, rfl⟩
set_option maxRecDepth 100000 in
theorem pBusy_any (w : World) (p : Nat) (L : List (Option Ses)) (h : PinsAt w p L) (s : Int) :
    Calls Try.prog 33 #[.pointer (some ⟨p, 0, none⟩), .int .i64 s] w fun e w' => e = .returned (.int .i64 (((atS L s).map (·.busy)).getD 0 : Nat)) ∧ w' = w := by
  have ho := Lib.hid (pOpen_any w p L h s)
  have hs : Hid (∀ σ, atS L s = some σ → w.cell? ⟨σ.sb, 1, none⟩ = some (.int .i64 (σ.busy : Int))) := Lib.hid fun σ hσ => by
    obtain ⟨k, _, _, hk⟩ := h.atS_some hσ
    have := (h.ses k σ hk).1
    unfold World.cell?
    simp [this]
  clear h
  generalize atS L s = x at ho hs ⊢
  cases x
  · simp only [sptr] at ho ⊢
    go_enter Try.func33, Try.ntmps33
    go_wp2_with (go_at_call 20; refine ho.out.mono ?_; rintro e w5 ⟨rfl, rfl⟩)
    go_ret
    exact ⟨rfl, rfl⟩
  · rename_i σ
    have c1 := hs.out σ rfl
    clear hs
    simp only [sptr] at ho ⊢
    go_enter Try.func33, Try.ntmps33
    go_wp2_with (go_at_call 20; refine ho.out.mono ?_; rintro e w5 ⟨rfl, rfl⟩)
    go_ret
    exact ⟨rfl, rfl⟩
end Go.Proofs.Ytgjokkjmljdmbaa
