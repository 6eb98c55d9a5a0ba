/- A call that changes a range of one block, and makes memory: what stands. No program is named here. -/
import Derived.Test.YtlolnpilpdkbkaaDoorOwn2
import Derived.Deep.MidRow
namespace Go.Proofs.YtlolnpilpdkbkaaDoor
open Go.RowKit

/-- Of what was there, only m cells of block g from o on may have changed. -/
structure Chg (w w' : World) (g o m : Nat) : Prop where
  os : w'.os = w.os
  tape : w'.tape = w.tape
  output : w'.output = w.output
  size : w.heap.size ≤ w'.heap.size
  block : ∀ k, k < w.heap.size → k ≠ g → w'.heap[k]? = w.heap[k]?
  cell : ∀ k, k < o ∨ o + m ≤ k → w'.cell? ⟨g, k, none⟩ = w.cell? ⟨g, k, none⟩
  frozen : ∀ k, w'.frozen? ⟨g, k, none⟩ = w.frozen? ⟨g, k, none⟩
section
variable {w w' w'' : World} {g o m : Nat}
theorem Chg.refl (w : World) (g o m : Nat) : Chg w w g o m := ⟨rfl, rfl, rfl, Nat.le_refl _, fun _ _ _ => rfl, fun _ _ => rfl, fun _ => rfl⟩
theorem Chg.trans (h : Chg w w' g o m) (h' : Chg w' w'' g o m) : Chg w w'' g o m :=
  ⟨h'.os.trans h.os, h'.tape.trans h.tape, h'.output.trans h.output, Nat.le_trans h.size h'.size, fun k hk hg => (h'.block k (Nat.lt_of_lt_of_le hk h.size) hg).trans (h.block k hk hg), fun k hk => (h'.cell k hk).trans (h.cell k hk), fun k => (h'.frozen k).trans (h.frozen k)⟩
theorem Chg.of_below (h : Below w.heap.size w w') (hg : g < w.heap.size) : Chg w w' g o m :=
  ⟨h.os, h.tape, h.output, h.size, fun k hk _ => h.block k hk, fun _ _ => World.cell?_of_block (h.block g hg), fun _ => World.frozen?_of_block (h.block g hg)⟩
theorem Chg.below {B : Nat} (h : Chg w w' g o m) (hB : B ≤ w.heap.size) (hg : B ≤ g) : Below B w w' :=
  ⟨h.os, h.tape, h.output, h.size, fun k hk => h.block k (by omega) (by omega)⟩
theorem Chg.drew (h : Chg w w' g o m) : Chg w w'.drew g o m := ⟨h.os, h.tape, h.output, h.size, h.block, h.cell, h.frozen⟩
/-- A cell elsewhere. -/
theorem Chg.far (h : Chg w w' g o m) {p : Addr} {v : Value} (hp : p.block ≠ g) (hc : w.cell? p = some v) : w'.cell? p = some v :=
  (World.cell?_of_block (h.block p.block (World.block_lt_of_cell? w p hc) hp)).trans hc
theorem Chg.range (h : Chg w w' g o m) {b p : Nat} {cs : List Value} (hr : w.rangeAt b p cs) (hp : b ≠ g ∨ p + cs.length ≤ o ∨ o + m ≤ p) : w'.rangeAt b p cs := fun j v hv => by
  have hj : j < cs.length := (List.getElem?_eq_some_iff.1 hv).1
  by_cases hb : b = g
  · subst hb
    rw [h.cell (p + j) (by omega)]
    exact hr j v hv
  · exact h.far (p := ⟨b, p + j, none⟩) hb (hr j v hv)
/-- The address of a list that is not empty lies in another block. -/
def Off (A : Option Addr) (n g : Nat) : Prop := 0 < n → ∀ a, A = some a → a.block ≠ g
theorem Off.cut {A : Option Addr} {n : Nat} (h : Off A n g) {k cap : Nat} (hk : k ≤ n) (hc : n ≤ cap) : Off (if cap = k then A else A.map (·.add k)) (n - k) g := fun hn => by
  rw [if_neg (by omega)]
  intro a ha
  obtain ⟨a', ha', rfl⟩ := Option.map_eq_some_iff.1 ha
  have e : (a'.add k).block = a'.block := by unfold Addr.add; split <;> rfl
  rw [e]
  exact h (by omega) a' ha'
theorem Rd.chg {A : Option Addr} {B n : Nat} {f : Nat → Value} (h : Rd w B A n f) (hc : Chg w w' g o m) (ho : Off A n g) : Rd w' B A n f := fun hn => by
  obtain ⟨b, off, rfl, hb, hcell⟩ := h hn
  exact ⟨b, off, rfl, hb, fun j hj => hc.far (p := ⟨b, off + j, none⟩) (ho hn ⟨b, off, none⟩ rfl) (hcell j hj)⟩
theorem setCells_size (b : Nat) : ∀ (vs : List Value) (o : Nat) (w : World), (w.setCells b o vs).heap.size = w.heap.size ∧ (w.setCells b o vs).os = w.os ∧ (w.setCells b o vs).tape = w.tape ∧ (w.setCells b o vs).output = w.output
  | [], _, _ => ⟨rfl, rfl, rfl, rfl⟩
  | v :: r, o, w => by
    rw [World.setCells]
    have := setCells_size b r (o + 1) (w.setCell ⟨b, o, none⟩ v)
    exact ⟨this.1.trans (by simp), this.2.1, this.2.2.1, this.2.2.2⟩
theorem setCells_other (b : Nat) : ∀ (vs : List Value) (o : Nat) (w : World) (k : Nat), k ≠ b → (w.setCells b o vs).heap[k]? = w.heap[k]?
  | [], _, _, _, _ => rfl
  | v :: r, o, w, k, hk => by
    rw [World.setCells, setCells_other b r (o + 1) _ k hk]
    exact heap_setCell_other w ⟨b, o, none⟩ k v hk
theorem Chg.cells (w : World) (g : Nat) {o m p : Nat} {vs : List Value} (h1 : o ≤ p) (h2 : p + vs.length ≤ o + m) : Chg w (w.setCells g p vs) g o m :=
  have hs := setCells_size g vs p w
  ⟨hs.2.1, hs.2.2.1, hs.2.2.2, Nat.le_of_eq hs.1.symm, fun k _ hk => setCells_other g vs p w k hk, fun k hk => World.cell?_setCells_out g vs p w ⟨g, k, none⟩ (fun _ _ => by show k < p ∨ p + vs.length ≤ k; omega), fun k => World.frozen?_setCells g vs p w _⟩
theorem Chg.cell1 (w : World) (g : Nat) {o m p : Nat} {v : Value} (h1 : o ≤ p) (h2 : p < o + m) : Chg w (w.setCell ⟨g, p, none⟩ v) g o m := Chg.cells w g (vs := [v]) h1 (by simp; omega)
end
end Go.Proofs.YtlolnpilpdkbkaaDoor
