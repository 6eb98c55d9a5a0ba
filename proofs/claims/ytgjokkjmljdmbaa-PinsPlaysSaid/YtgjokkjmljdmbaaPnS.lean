/- Pins in memory. -/
import Derived.Test.YtgjokkjmljdmbaaKyK
namespace Go.Proofs.Ytgjokkjmljdmbaa
open Go.RowKit Go.Maps
set_option linter.unusedSimpArgs false
set_option linter.unusedVariables false

structure Ses where
  sb : Nat
  kb : Nat
  mb : Nat
  n : Nat
  busy : Nat
  ks : List (List Nat)
def sptr : Option Ses → Value
  | none => .pointer none
  | some σ => .pointer (some ⟨σ.sb, 0, none⟩)
def SesAt (w : World) (σ : Ses) : Prop := w.heap[σ.sb]? = some (.cells #[.pointer (some ⟨σ.kb, 0, none⟩), .int .i64 (σ.busy : Int)] 57 (0, 0)) ∧ SetK w σ.kb σ.mb σ.n σ.ks
def pcells (L : List (Option Ses)) : List Value := .bool true :: L.map sptr
/-- The sessions of Pins that lie at p. -/
structure PinsAt (w : World) (p : Nat) (L : List (Option Ses)) : Prop where
  len : L.length = 16
  cells : w.heap[p]? = some (.cells (pcells L).toArray 53 (0, 0))
  ses : ∀ (i : Nat) σ, L[i]? = some (some σ) → SesAt w σ
  sep : ∀ (i j : Nat) σ τ, i ≠ j → L[i]? = some (some σ) → L[j]? = some (some τ) → σ.sb ≠ τ.sb ∧ σ.mb ≠ τ.mb
/-- The blocks that are written. -/
def Wr (p : Nat) (L : List (Option Ses)) (k : Nat) : Prop := k = p ∨ ∃ (i : Nat) (σ : Ses), L[i]? = some (some σ) ∧ (k = σ.sb ∨ k = σ.mb)
section
variable {w w' : World} {p : Nat} {L : List (Option Ses)} {σ : Ses}
theorem SesAt.keep (h : SesAt w σ) (h1 : w'.heap[σ.sb]? = w.heap[σ.sb]?) (h2 : w'.heap[σ.kb]? = w.heap[σ.kb]?) (h3 : w'.heap[σ.mb]? = w.heap[σ.mb]?) : SesAt w' σ := ⟨h1.trans h.1, h.2.keep h2 h3⟩
theorem SesAt.lts (h : SesAt w σ) : σ.sb < w.heap.size ∧ σ.kb < w.heap.size ∧ σ.mb < w.heap.size := ⟨(Array.getElem?_eq_some_iff.1 h.1).1, h.2.lts⟩
theorem SesAt.unlike (h : SesAt w σ) : σ.sb ≠ σ.kb ∧ σ.sb ≠ σ.mb ∧ σ.kb ≠ σ.mb := by
  obtain ⟨h1, D, ⟨h2, es, clock, h3, _⟩, _⟩ := h
  refine ⟨fun e => ?_, fun e => ?_, fun e => ?_⟩
  · rw [e, h2] at h1; cases h1
  · rw [e, h3] at h1; cases h1
  · rw [e, h3] at h2; cases h2
theorem PinsAt.below {B : Nat} (h : PinsAt w p L) (hb : Below B w w') (hB : w.heap.size ≤ B) : PinsAt w' p L := by
  refine ⟨h.len, (hb.block _ (Nat.lt_of_lt_of_le (Array.getElem?_eq_some_iff.1 h.cells).1 hB)).trans h.cells, fun i σ hi => ?_, h.sep⟩
  have hs := h.ses i σ hi
  obtain ⟨l1, l2, l3⟩ := hs.lts
  exact hs.keep (hb.block _ (by omega)) (hb.block _ (by omega)) (hb.block _ (by omega))
theorem PinsAt.lt (h : PinsAt w p L) : p < w.heap.size := (Array.getElem?_eq_some_iff.1 h.cells).1
theorem PinsAt.wr (h : PinsAt w p L) {k : Nat} (hk : Wr p L k) : k < w.heap.size := by
  rcases hk with rfl | ⟨i, σ, hi, rfl | rfl⟩
  · exact h.lt
  · exact (h.ses i σ hi).lts.1
  · exact (h.ses i σ hi).lts.2.2
theorem PinsAt.unlike (h : PinsAt w p L) {i : Nat} (hi : L[i]? = some (some σ)) : p ≠ σ.sb ∧ p ≠ σ.kb ∧ p ≠ σ.mb := by
  obtain ⟨h1, D, ⟨h2, es, clock, h3, _⟩, _⟩ := h.ses i σ hi
  refine ⟨fun e => ?_, fun e => ?_, fun e => ?_⟩
  · rw [← e, h.cells] at h1; cases h1
  · rw [← e, h.cells] at h2; cases h2
  · rw [← e, h.cells] at h3; cases h3
/-- No other session's blocks. -/
theorem PinsAt.other (h : PinsAt w p L) {i j : Nat} {τ : Ses} (hij : i ≠ j) (hi : L[i]? = some (some σ)) (hj : L[j]? = some (some τ)) : σ.sb ≠ τ.sb ∧ σ.sb ≠ τ.kb ∧ σ.sb ≠ τ.mb ∧ σ.mb ≠ τ.sb ∧ σ.mb ≠ τ.kb ∧ σ.mb ≠ τ.mb := by
  obtain ⟨a1, D, ⟨a2, es, clock, a3, _⟩, _⟩ := h.ses i σ hi
  obtain ⟨b1, D', ⟨b2, es', clock', b3, _⟩, _⟩ := h.ses j τ hj
  obtain ⟨s1, s2⟩ := h.sep i j σ τ hij hi hj
  refine ⟨s1, fun e => ?_, fun e => ?_, fun e => ?_, fun e => ?_, s2⟩
  · rw [e, b2] at a1; cases a1
  · rw [e, b3] at a1; cases a1
  · rw [e, b1] at a3; cases a3
  · rw [e, b2] at a3; cases a3
theorem PinsAt.cell0 (h : PinsAt w p L) : w.cell? ⟨p, 0, none⟩ = some (.bool true) := by
  unfold World.cell?
  simp [h.cells, pcells]
theorem PinsAt.cell1 (h : PinsAt w p L) {k : Nat} {x : Option Ses} (hk : L[k]? = some x) : w.cell? ⟨p, 1 + k, none⟩ = some (sptr x) := by
  unfold World.cell?
  simp [h.cells, pcells, Nat.add_comm 1 k, hk]
theorem PinsAt.frozen (h : PinsAt w p L) (k : Nat) : w.frozen? ⟨p, k, none⟩ = false := frozen_of_row _ _ _ _ _ h.cells
/-- The session of a number. -/
def atS (L : List (Option Ses)) (s : Int) : Option Ses := if 0 ≤ s ∧ s < 16 then (L[s.toNat]?).getD none else none
theorem PinsAt.atS_some (h : PinsAt w p L) {s : Int} (ha : atS L s = some σ) : ∃ k : Nat, s = k ∧ k < 16 ∧ L[k]? = some (some σ) := by
  unfold atS at ha
  split at ha
  · rename_i hs
    refine ⟨s.toNat, by omega, by omega, ?_⟩
    have hl : s.toNat < L.length := by rw [h.len]; omega
    rw [List.getElem?_eq_getElem hl] at ha ⊢
    simpa using ha
  · cases ha
theorem PinsAt.get (h : PinsAt w p L) {k : Nat} (hk : k < 16) : L[k]? = some (atS L k) := by
  unfold atS
  have hl : k < L.length := by rw [h.len]; exact hk
  rw [if_pos (by omega)]
  simp [List.getElem?_eq_getElem hl]
end
/-- One session is another, its blocks are the same. -/
theorem PinsAt.turn {w w' : World} {p : Nat} {L : List (Option Ses)} {σ τ : Ses} {i : Nat} (h : PinsAt w p L) (hi : L[i]? = some (some σ)) (e1 : τ.sb = σ.sb) (e2 : τ.kb = σ.kb) (e3 : τ.mb = σ.mb)
    (hs : SesAt w' τ) (hu : ∀ k, k < w.heap.size → k ≠ σ.sb → k ≠ σ.mb → w'.heap[k]? = w.heap[k]?) : PinsAt w' p (L.set i (some τ)) := by
  have hil := (List.getElem?_eq_some_iff.1 hi).1
  have hun := h.unlike hi
  refine ⟨by rw [List.length_set]; exact h.len, ?_, fun j ρ hj => ?_, fun a b ρ ρ' hab ha hb => ?_⟩
  · rw [hu p h.lt hun.1 hun.2.2, h.cells]
    have : pcells (L.set i (some τ)) = pcells L := by
      unfold pcells
      rw [List.map_set]
      have he : sptr (some τ) = sptr (some σ) := by simp [sptr, e1]
      rw [he]
      congr 1
      refine List.ext_getElem (by simp) fun n h1 h2 => ?_
      rw [List.getElem_set]
      split
      · rename_i en
        subst en
        have := (List.getElem?_eq_some_iff.1 hi).2
        simp [this]
      · rfl
    rw [this]
  · rw [List.getElem?_set] at hj
    split at hj
    · cases hj; exact hs
    · rename_i hne
      obtain ⟨l1, l2, l3⟩ := (h.ses j ρ hj).lts
      obtain ⟨o1, o2, o3, o4, o5, o6⟩ := h.other hne hi hj
      exact (h.ses j ρ hj).keep (hu _ l1 (Ne.symm o1) (Ne.symm o4)) (hu _ l2 (Ne.symm o2) (Ne.symm o5)) (hu _ l3 (Ne.symm o3) (Ne.symm o6))
  · rw [List.getElem?_set] at ha hb
    split at ha
    · rename_i ea
      subst ea
      split at hb
      · rename_i eb; exact absurd eb hab
      · cases ha
        rw [e1, e3]
        exact h.sep _ _ _ _ hab hi hb
    · split at hb
      · rename_i eb
        subst eb
        cases hb
        rw [e1, e3]
        exact h.sep _ _ _ _ hab ha hi
      · exact h.sep _ _ _ _ hab ha hb
end Go.Proofs.Ytgjokkjmljdmbaa
