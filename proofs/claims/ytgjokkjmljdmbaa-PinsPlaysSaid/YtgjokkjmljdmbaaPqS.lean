/- The document's Pins in memory. -/
import Derived.Test.YtgjokkjmljdmbaaPnO
import Derived.Test.YtgjokkjmljdmbaaKyR
namespace Go.Proofs.Ytgjokkjmljdmbaa
open Go.RowKit Go.Maps
set_option linter.unusedSimpArgs false
set_option linter.unusedVariables false

structure RSes where
  op : Bool
  busy : Nat
  ks : List (List Nat)
  A : Option Addr
  c : Nat
def rcells (f : Nat → RSes) : List Value := ((List.range 16).map fun i => .bool (f i).op) ++ (((List.range 16).map fun i => .int .i64 ((f i).busy : Int)) ++ (List.range 16).map fun i => .slice (f i).A (f i).ks.length (f i).c)
theorem rcells_length (f : Nat → RSes) : (rcells f).length = 48 := by simp [rcells]
theorem rcells_get (f : Nat → RSes) (n : Nat) : (rcells f)[n]? = if n < 16 then some (.bool (f n).op) else if n < 32 then some (.int .i64 ((f (n - 16)).busy : Int)) else if n < 48 then some (.slice (f (n - 32)).A (f (n - 32)).ks.length (f (n - 32)).c) else none := by
  unfold rcells
  by_cases h1 : n < 16
  · rw [if_pos h1, List.getElem?_append_left (by simpa using h1)]
    simp [h1]
  · rw [if_neg h1, List.getElem?_append_right (by simp; omega)]
    by_cases h2 : n < 32
    · rw [if_pos h2, List.getElem?_append_left (by simp; omega)]
      simp [show n - 16 < 16 by omega]
    · rw [if_neg h2, List.getElem?_append_right (by simp; omega)]
      by_cases h3 : n < 48
      · rw [if_pos h3]
        have e : (List.range 16)[n - 16 - 16]? = some (n - 32) := by rw [List.getElem?_range (by omega)]; congr 1
        simp only [List.length_map, List.length_range, List.getElem?_map, e, Option.map_some]
      · rw [if_neg h3]
        simp
        omega
def updR (f : Nat → RSes) (i : Nat) (x : RSes) : Nat → RSes := fun j => if j = i then x else f j
theorem updR_same (f : Nat → RSes) (i : Nat) (x : RSes) : updR f i x i = x := if_pos rfl
theorem updR_other (f : Nat → RSes) {i j : Nat} (x : RSes) (h : j ≠ i) : updR f i x j = f j := if_neg h
theorem rcells_op (f : Nat → RSes) {i : Nat} (hi : i < 16) (b : Bool) : (rcells f).set i (.bool b) = rcells (updR f i { f i with op := b }) := by
  apply List.ext_getElem?
  intro n
  rw [List.getElem?_set, rcells_get, rcells_get]
  unfold updR
  by_cases e : i = n
  · subst e
    simp [rcells_length, hi, show i < 48 by omega]
  · rw [if_neg e]
    by_cases h1 : n < 16
    · simp [h1, Ne.symm e]
    · simp only [h1, if_false]
      by_cases h2 : n - 16 = i
      · simp [h2]
        by_cases h3 : n - 32 = i
        · simp [h3]
        · simp [h3]
      · simp only [h2, if_false]
        by_cases h3 : n - 32 = i
        · simp [h3]
        · simp [h3]
theorem rcells_busy (f : Nat → RSes) {i : Nat} (hi : i < 16) (m : Nat) : (rcells f).set (16 + i) (.int .i64 (m : Int)) = rcells (updR f i { f i with busy := m }) := by
  apply List.ext_getElem?
  intro n
  rw [List.getElem?_set, rcells_get, rcells_get]
  unfold updR
  by_cases e : 16 + i = n
  · subst e
    simp [rcells_length, hi, show 16 + i < 48 by omega, show 16 + i < 32 by omega]
  · rw [if_neg e]
    by_cases h1 : n < 16
    · simp only [h1, if_true]
      by_cases h2 : n = i
      · simp [h2]
      · simp [h2]
    · simp only [h1, if_false]
      by_cases h2 : n - 16 = i
      · omega
      · simp only [h2, if_false]
        by_cases h3 : n - 32 = i
        · simp [h3]
        · simp [h3]
theorem rcells_ks (f : Nat → RSes) {i : Nat} (hi : i < 16) (A : Option Addr) (ks : List (List Nat)) (c : Nat) : (rcells f).set (32 + i) (.slice A ks.length c) = rcells (updR f i { f i with ks := ks, A := A, c := c }) := by
  apply List.ext_getElem?
  intro n
  rw [List.getElem?_set, rcells_get, rcells_get]
  unfold updR
  by_cases e : 32 + i = n
  · subst e
    simp [rcells_length, hi, show 32 + i < 48 by omega, show ¬ 32 + i < 32 by omega, show ¬ 32 + i < 16 by omega]
  · rw [if_neg e]
    by_cases h1 : n < 16
    · simp only [h1, if_true]
      by_cases h2 : n = i
      · simp [h2]
      · simp [h2]
    · simp only [h1, if_false]
      by_cases h4 : n < 32
      · simp only [h4, if_true]
        by_cases h2 : n - 16 = i
        · simp [h2]
        · simp [h2]
      · simp only [h4, if_false]
        by_cases h3 : n - 32 = i
        · omega
        · simp [h3]
/-- The document's Pins at q. -/
structure RefAt (w : World) (q : Nat) (f : Nat → RSes) : Prop where
  cells : w.heap[q]? = some (.cells (rcells f).toArray 67 (0, 0))
  row : ∀ i, i < 16 → Own w 0 29 32 (f i).A (f i).ks.length (f i).c (rowsK (f i).ks)
  rise : ∀ i, i < 16 → Rise32 (f i).ks
section
variable {w w' : World} {q : Nat} {f : Nat → RSes}
theorem own_tag {w : World} {B e size n c : Nat} {A : Option Addr} {xs : List Value} (h : Own w B e size A n c xs) {k : Nat} (hk : blockOf A = some k) : ∃ cs fr, w.heap[k]? = some (.cells cs e fr) := by
  rcases h.2 with ⟨h0, _⟩ | ⟨g, cap, cur, hv, _, hg, _⟩
  · injection h0 with hA
    rw [hA] at hk
    cases hk
  · injection hv with hA
    rw [hA] at hk
    cases hk
    exact ⟨_, _, hg⟩
theorem RefAt.lt (h : RefAt w q f) : q < w.heap.size := (Array.getElem?_eq_some_iff.1 h.cells).1
theorem RefAt.keep (h : RefAt w q f) (h1 : w'.heap[q]? = w.heap[q]?) (h2 : ∀ i, i < 16 → ∀ k, blockOf (f i).A = some k → w'.heap[k]? = w.heap[k]?) : RefAt w' q f :=
  ⟨h1.trans h.cells, fun i hi => own_same0 (h.row i hi) (h2 i hi), h.rise⟩
where
  own_same0 {w w' : World} {B : Nat} {e : TypeId} {size n c : Nat} {A : Option Addr} {xs : List Value} (h : Own w B e size A n c xs) (hk : ∀ k, blockOf A = some k → w'.heap[k]? = w.heap[k]?) : Own w' B e size A n c xs := by
    refine ⟨h.1, ?_⟩
    rcases h.2 with h0 | ⟨g, cap, cur, hv, hg, hh, rest⟩
    · exact .inl h0
    · have hv' := hv
      injection hv' with hA
      subst hA
      exact .inr ⟨g, cap, cur, hv, hg, (hk g rfl).trans hh, rest⟩
theorem RefAt.below {B : Nat} (h : RefAt w q f) (hb : Below B w w') (hB : w.heap.size ≤ B) : RefAt w' q f :=
  h.keep (hb.block _ (by have := h.lt; omega)) fun i hi k hk => hb.block _ (by have := ((h.row i hi).lt k hk).2; omega)
theorem RefAt.cop (h : RefAt w q f) {k : Nat} (hk : k < 16) : w.cell? ⟨q, k, none⟩ = some (.bool (f k).op) := by
  unfold World.cell?
  simp [h.cells, rcells_get, hk]
theorem RefAt.cbusy (h : RefAt w q f) {k : Nat} (hk : k < 16) : w.cell? ⟨q, 16 + k, none⟩ = some (.int .i64 ((f k).busy : Int)) := by
  unfold World.cell?
  simp [h.cells, rcells_get, show 16 + k < 32 by omega]
theorem RefAt.cks (h : RefAt w q f) {k : Nat} (hk : k < 16) : w.cell? ⟨q, 32 + k, none⟩ = some (.slice (f k).A (f k).ks.length (f k).c) := by
  unfold World.cell?
  simp [h.cells, rcells_get, show 32 + k < 48 by omega, show ¬ 32 + k < 32 by omega, show ¬ 32 + k < 16 by omega]
theorem RefAt.frozen (h : RefAt w q f) (k : Nat) : w.frozen? ⟨q, k, none⟩ = false := frozen_of_row _ _ _ _ _ h.cells
/-- The rows lie elsewhere. -/
theorem RefAt.off (h : RefAt w q f) {i : Nat} (hi : i < 16) {k : Nat} (hk : blockOf (f i).A = some k) : k ≠ q := fun e => by
  obtain ⟨cs, fr, h1⟩ := own_tag (h.row i hi) hk
  rw [e, h.cells] at h1
  cases h1
/-- A cell of the table is written. -/
theorem RefAt.put (h : RefAt w q f) {n : Nat} (hn : n < 48) (v : Value) {f' : Nat → RSes} (hc : (rcells f).set n v = rcells f') (hr : ∀ i, i < 16 → Own w 0 29 32 (f' i).A (f' i).ks.length (f' i).c (rowsK (f' i).ks) ∧ Rise32 (f' i).ks ∧ ∀ k, blockOf (f' i).A = some k → k ≠ q) :
    RefAt (w.setCell ⟨q, n, none⟩ v) q f' := by
  refine ⟨?_, fun i hi => ?_, fun i hi => (hr i hi).2.1⟩
  · rw [heap_setCell_same w q n _ _ v h.cells]
    simp [hc]
  · obtain ⟨h1, h2, h3⟩ := hr i hi
    exact RefAt.keep.own_same0 h1 fun k hk => heap_setCell_other w _ _ _ (by simp; exact fun e => h3 k hk e)
theorem RefAt.setOp (h : RefAt w q f) {i : Nat} (hi : i < 16) (b : Bool) : RefAt (w.setCell ⟨q, i, none⟩ (.bool b)) q (updR f i { f i with op := b }) :=
  h.put (by omega) _ (rcells_op f hi b) fun j hj => by
    by_cases e : j = i
    · subst e
      rw [updR_same]
      exact ⟨h.row j hj, h.rise j hj, fun k hk => h.off hj hk⟩
    · rw [updR_other f _ e]
      exact ⟨h.row j hj, h.rise j hj, fun k hk => h.off hj hk⟩
theorem RefAt.setBusy (h : RefAt w q f) {i : Nat} (hi : i < 16) (m : Nat) : RefAt (w.setCell ⟨q, 16 + i, none⟩ (.int .i64 (m : Int))) q (updR f i { f i with busy := m }) :=
  h.put (by omega) _ (rcells_busy f hi m) fun j hj => by
    by_cases e : j = i
    · subst e
      rw [updR_same]
      exact ⟨h.row j hj, h.rise j hj, fun k hk => h.off hj hk⟩
    · rw [updR_other f _ e]
      exact ⟨h.row j hj, h.rise j hj, fun k hk => h.off hj hk⟩
theorem RefAt.setKs (h : RefAt w q f) {i : Nat} (hi : i < 16) {A : Option Addr} {ks : List (List Nat)} {c B : Nat} (ho : Own w B 29 32 A ks.length c (rowsK ks)) (hr : Rise32 ks) : RefAt (w.setCell ⟨q, 32 + i, none⟩ (.slice A ks.length c)) q (updR f i { f i with ks := ks, A := A, c := c }) :=
  h.put (by omega) _ (rcells_ks f hi A ks c) fun j hj => by
    by_cases e : j = i
    · subst e
      rw [updR_same]
      refine ⟨ho.base (Nat.zero_le _), hr, fun k hk e => ?_⟩
      obtain ⟨cs, fr, h1⟩ := own_tag ho hk
      rw [e, h.cells] at h1
      cases h1
    · rw [updR_other f _ e]
      exact ⟨h.row j hj, h.rise j hj, fun k hk => h.off hj hk⟩
end
/-- Is a session open? -/
def opR (f : Nat → RSes) (s : Int) : Bool := if 0 ≤ s ∧ s < 16 then (f s.toNat).op else false
theorem opR_at {f : Nat → RSes} {s : Int} (h : opR f s = true) : ∃ k : Nat, s = k ∧ k < 16 ∧ (f k).op = true := by
  unfold opR at h
  split at h
  · exact ⟨s.toNat, by omega, by omega, h⟩
  · cases h
theorem opR_nat (f : Nat → RSes) {k : Nat} (hk : k < 16) : opR f k = (f k).op := by
  unfold opR
  rw [if_pos (by omega), Int.toNat_natCast]
end Go.Proofs.Ytgjokkjmljdmbaa
