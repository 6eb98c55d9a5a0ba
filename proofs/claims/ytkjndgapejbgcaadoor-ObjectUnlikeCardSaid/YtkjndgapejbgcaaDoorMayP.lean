/- Why an object may not be; its bytes: plain words. -/
import Derived.Test.YtkjndgapejbgcaaDoorForW
import Derived.Test.YtkjndgapejbgcaaDoorItemsW
import Derived.Test.YtkjndgapejbgcaaDoorEncF
namespace Go.Proofs.YtkjndgapejbgcaaDoor
open Go.RowKit
set_option linter.unusedSimpArgs false

/-- Is a field of another kind not nought? -/
def forB (o : ObjT) : Bool := !sameO (stripO o) oZ
def longB (o : ObjT) : Bool := decide (128 < o.parts.length) || decide (128 < o.items.length) || decide (127 < o.parents.length)
def noteB (o : ObjT) : Bool := decide (1024 < o.note.size) || !lettersD o.note o.note.size 0
def kindE (o : ObjT) : Nat :=
  if o.kind = 2 then (if partsB 0 o.parts then 0 else 47) else if o.kind = 3 then itemsE none o.items else if o.kind = 4 then (if noteB o then 46 else 0) else 0
def mayE (o : ObjT) : Nat := if o.kind < 1 ∨ 4 < o.kind then 40 else if forB o then 41 else if longB o then 42 else kindE o

def oneP (x : PartT) : List Nat := x.1.1 ++ varL x.2
def oneI (x : ItemT) : List Nat := varL x.1.size ++ strL x.1 ++ [x.2.1] ++ varL x.2.2.1 ++ x.2.2.2.1
def oneK (x : Key32) : List Nat := x.1
def layT (o : ObjT) : List Nat := o.tree.1 ++ varL o.parents.length ++ o.parents.flatMap oneK ++ fixF 8 (o.time % 18446744073709551616).toNat ++ (varL o.note.size ++ strL o.note)
/-- An object's bytes. -/
def layL (o : ObjT) : List Nat :=
  [o.kind] ++ (if o.kind = 1 then o.data else if o.kind = 2 then varL o.parts.length ++ o.parts.flatMap oneP else if o.kind = 3 then varL o.items.length ++ o.items.flatMap oneI else if o.kind = 4 then layT o else [])
def encE (o : ObjT) : Nat := if mayE o ≠ 0 then mayE o else if 8192 ≤ o.data.length then 48 else if 8192 < (layL o).length then 48 else 0
/-- What Encode tells. -/
def encL (o : ObjT) : List Nat := if encE o = 0 then layL o else []

theorem decide_list_nil {α : Type} [DecidableEq α] (l : List α) : decide (l = []) = decide (l.length = 0) := by
  cases l <;> simp
/-- The document's word for it. -/
def refFor (o : ObjT) : Bool :=
  (decide (o.kind ≠ 1) && decide (0 < o.data.length)) || (decide (o.kind ≠ 2) && decide (0 < o.parts.length)) || (decide (o.kind ≠ 3) && decide (0 < o.items.length)) ||
    (decide (o.kind ≠ 4) && (!decide (o.tree = zK) || decide (0 < o.parents.length) || !decide (o.time = 0) || !decide (o.note = ⟨#[]⟩)))
theorem nil_pos {α : Type} [DecidableEq α] (l : List α) : decide (l = []) = !decide (0 < l.length) := by
  cases l <;> simp
theorem forB_eq (o : ObjT) : forB o = refFor o := by
  unfold forB refFor stripO sameO oZ
  by_cases h1 : o.kind = 1
  · rw [if_pos h1]
    simp [h1, nil_pos]
    cases decide (0 < o.parts.length) <;> cases decide (0 < o.items.length) <;> cases decide (o.tree = zK) <;> cases decide (0 < o.parents.length) <;> cases decide (o.time = 0) <;> simp
  · rw [if_neg h1]
    by_cases h2 : o.kind = 2
    · rw [if_pos h2]
      simp [h2, nil_pos]
      cases decide (0 < o.data.length) <;> cases decide (0 < o.items.length) <;> cases decide (o.tree = zK) <;> cases decide (0 < o.parents.length) <;> cases decide (o.time = 0) <;> simp
    · rw [if_neg h2]
      by_cases h3 : o.kind = 3
      · rw [if_pos h3]
        simp [h3, nil_pos]
        cases decide (0 < o.data.length) <;> cases decide (0 < o.parts.length) <;> cases decide (o.tree = zK) <;> cases decide (0 < o.parents.length) <;> cases decide (o.time = 0) <;> simp
      · rw [if_neg h3]
        by_cases h4 : o.kind = 4
        · rw [if_pos h4]
          simp [h4, nil_pos]
        · rw [if_neg h4]
          simp [h1, h2, h3, h4, nil_pos]
          cases decide (0 < o.data.length) <;> cases decide (0 < o.parts.length) <;> cases decide (0 < o.items.length) <;> cases decide (o.tree = zK) <;> cases decide (0 < o.parents.length) <;> cases decide (o.time = 0) <;> simp

/-- The document's reckoning. -/
def kidsN (o : ObjT) : Nat := if o.kind = 2 then o.parts.length else if o.kind = 3 then o.items.length else if o.kind = 4 then 1 + o.parents.length else 0
def chkE (o : ObjT) : Nat :=
  if o.kind < 1 ∨ 4 < o.kind then 40 else if refFor o then 41 else if 128 < kidsN o then 42 else if kindE o ≠ 0 then kindE o else if 8192 < o.data.length ∨ 8192 < (layL o).length then 48 else 0
theorem refFor_own (o : ObjT) (h : refFor o = false) : (o.kind ≠ 1 → o.data = []) ∧ (o.kind ≠ 2 → o.parts = []) ∧ (o.kind ≠ 3 → o.items = []) ∧ (o.kind ≠ 4 → o.parents = []) := by
  unfold refFor at h
  simp only [Bool.or_eq_false_iff, Bool.and_eq_false_iff, decide_eq_false_iff_not, Nat.not_lt, Nat.le_zero, List.length_eq_zero_iff] at h
  obtain ⟨⟨⟨h1, h2⟩, h3⟩, h4⟩ := h
  refine ⟨fun h => ?_, fun h => ?_, fun h => ?_, fun h => ?_⟩
  · rcases h1 with h1 | h1
    · exact absurd h h1
    · exact h1
  · rcases h2 with h1 | h1
    · exact absurd h h1
    · exact h1
  · rcases h3 with h1 | h1
    · exact absurd h h1
    · exact h1
  · rcases h4 with h1 | h1
    · exact absurd h h1
    · exact h1.1.1.2
theorem encE_eq (o : ObjT) : encE o = chkE o := by
  unfold encE chkE mayE
  by_cases hk : o.kind < 1 ∨ 4 < o.kind
  · simp only [if_pos hk]; rfl
  · simp only [if_neg hk]
    rw [forB_eq]
    cases hr : refFor o with
    | true => rfl
    | false =>
      obtain ⟨h1, h2, h3, h4⟩ := refFor_own o hr
      have hlong : longB o = decide (128 < kidsN o) := by
        unfold longB kidsN
        by_cases k2 : o.kind = 2
        · rw [if_pos k2, h3 (by omega), h4 (by omega)]; simp
        · rw [if_neg k2, h2 k2]
          by_cases k3 : o.kind = 3
          · rw [if_pos k3, h4 (by omega)]; simp
          · rw [if_neg k3, h3 k3]
            by_cases k4 : o.kind = 4
            · rw [if_pos k4]
              simp only [List.length_nil, Nat.not_lt_zero, decide_false, Bool.false_or]
              rw [decide_eq_decide]
              omega
            · rw [if_neg k4, h4 k4]; simp
      rw [hlong]
      simp only [Bool.false_eq_true, if_false]
      by_cases hl : 128 < kidsN o
      · simp [hl]
      · simp only [hl, decide_false, Bool.false_eq_true, if_false]
        by_cases hke : kindE o = 0
        · simp only [hke, ne_eq, not_true_eq_false, if_false]
          have hd : 8192 ≤ o.data.length → 8192 < (layL o).length := fun h => by
            by_cases k1 : o.kind = 1
            · unfold layL
              rw [if_pos k1, List.length_append]
              simp
              omega
            · rw [h1 k1] at h
              simp at h
          by_cases hx : 8192 < (layL o).length
          · rw [if_pos hx, if_pos (Or.inr hx)]
            simp
          · rw [if_neg (fun h => hx (hd h)), if_neg hx, if_neg (fun h => hx (h.elim (fun h => hd (by omega)) id))]
        · rw [if_pos hke, if_pos hke]
end Go.Proofs.YtkjndgapejbgcaaDoor
