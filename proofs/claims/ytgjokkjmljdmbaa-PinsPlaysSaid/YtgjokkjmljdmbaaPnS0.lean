/- A set in memory as a rising list; what has changed, by blocks. -/
import Derived.Test.YtgjokkjmljdmbaaKyW
namespace Go.Proofs.Ytgjokkjmljdmbaa
open Go.RowKit Go.Maps
set_option linter.unusedSimpArgs false
set_option linter.unusedVariables false

/-- A set of keys that lies at s, its map in m, of at most n keys: ks, rising. -/
def SetK (w : World) (s m n : Nat) (ks : List (List Nat)) : Prop := ∃ D, SetAt w s m n D ∧ KsOf D ks
theorem SetK.keep {w w' : World} {s m n : Nat} {ks : List (List Nat)} (h : SetK w s m n ks) (hs : w'.heap[s]? = w.heap[s]?) (hm : w'.heap[m]? = w.heap[m]?) : SetK w' s m n ks := by
  obtain ⟨D, ⟨h1, es, clock, h2, h3⟩, h4⟩ := h
  exact ⟨D, ⟨hs.trans h1, es, clock, hm.trans h2, h3⟩, h4⟩
theorem SetK.lts {w : World} {s m n : Nat} {ks : List (List Nat)} (h : SetK w s m n ks) : s < w.heap.size ∧ m < w.heap.size := by
  obtain ⟨D, h1, _⟩ := h
  exact ⟨(Array.getElem?_eq_some_iff.1 h1.1).1, h1.2.lt⟩
theorem SetK.rise {w : World} {s m n : Nat} {ks : List (List Nat)} (h : SetK w s m n ks) : Rise32 ks := by
  obtain ⟨D, _, h2⟩ := h
  exact h2.rise
/-- Nothing but the blocks of F has changed. -/
structure Upd (F : Nat → Prop) (w w' : World) : Prop where
  os : w'.os = w.os
  tape : w'.tape = w.tape
  output : w'.output = w.output
  size : w.heap.size ≤ w'.heap.size
  block : ∀ k, k < w.heap.size → ¬ F k → w'.heap[k]? = w.heap[k]?
section
variable {F F' : Nat → Prop} {w w' w'' : World}
theorem Upd.refl (F : Nat → Prop) (w : World) : Upd F w w := ⟨rfl, rfl, rfl, Nat.le_refl _, fun _ _ _ => rfl⟩
theorem Upd.mono (h : Upd F w w') (hF : ∀ k, F k → F' k) : Upd F' w w' := ⟨h.os, h.tape, h.output, h.size, fun k hk hn => h.block k hk fun hf => hn (hF k hf)⟩
theorem Upd.trans (h : Upd F w w') (h' : Upd F w' w'') : Upd F w w'' := ⟨h'.os.trans h.os, h'.tape.trans h.tape, h'.output.trans h.output, Nat.le_trans h.size h'.size, fun k hk hn => (h'.block k (Nat.lt_of_lt_of_le hk h.size) hn).trans (h.block k hk hn)⟩
/-- Blocks that were not there may change as they like. -/
theorem Upd.trans' (h : Upd F w w') (h' : Upd F' w' w'') (hF : ∀ k, F' k → k < w.heap.size → F k) : Upd F w w'' := ⟨h'.os.trans h.os, h'.tape.trans h.tape, h'.output.trans h.output, Nat.le_trans h.size h'.size, fun k hk hn => (h'.block k (Nat.lt_of_lt_of_le hk h.size) (fun hf => hn (hF k hf hk))).trans (h.block k hk hn)⟩
theorem Upd.of_below (h : Below w.heap.size w w') : Upd F w w' := ⟨h.os, h.tape, h.output, h.size, fun k hk _ => h.block k hk⟩
theorem Upd.of_grown {m : Nat} (h : w.grownBy w' (some m)) (hm : F m) : Upd F w w' := ⟨h.os, h.tape, h.output, h.size, fun k hk hn => h.block k hk (fun e => by cases e; exact hn hm)⟩
theorem Upd.set (w : World) {p : Addr} (hp : F p.block) (u : Value) : Upd F w (w.setCell p u) := ⟨rfl, rfl, rfl, by simp [World.setCell], fun k hk hn => Below.heap_setCell w p u k (fun e => hn (e ▸ hp))⟩
theorem Upd.drewN (h : Upd F w w') (n : Nat) : Upd F w (w'.drewN n) := ⟨h.os, h.tape, h.output, h.size, h.block⟩
theorem Upd.below {B : Nat} (h : Upd F w w') (hF : ∀ k, k < w.heap.size → F k → B ≤ k) (hB : B ≤ w.heap.size) : Below B w w' := ⟨h.os, h.tape, h.output, h.size, fun k hk => h.block k (by omega) (fun hf => by have := hF k (by omega) hf; omega)⟩
end

end Go.Proofs.Ytgjokkjmljdmbaa
