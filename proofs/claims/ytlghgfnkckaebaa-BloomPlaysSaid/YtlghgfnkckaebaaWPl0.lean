/- What has changed, by blocks; a filter there; places and words, plain. -/
import Derived.Test.YtlghgfnkckaebaaWAdd
namespace Go.Proofs.Ytlghgfnkckaebaa
open Go.RowKit
set_option linter.unusedSimpArgs false
set_option linter.unusedVariables false


/-- Of what was there, only blocks of which D speaks may have changed. -/
structure Fr (D : Nat → Prop) (w w' : World) : Prop where
  os : w'.os = w.os
  tape : w'.tape = w.tape
  output : w'.output = w.output
  size : w.heap.size ≤ w'.heap.size
  block : ∀ k, k < w.heap.size → ¬ D k → w'.heap[k]? = w.heap[k]?
section
variable {D D' : Nat → Prop} {w w' w'' : World}
theorem Fr.refl (D : Nat → Prop) (w : World) : Fr D w w := ⟨rfl, rfl, rfl, Nat.le_refl _, fun _ _ _ => rfl⟩
theorem Fr.trans (h : Fr D w w') (h' : Fr D' w' w'') (hd : ∀ k, k < w.heap.size → D' k → D k) : Fr D w w'' :=
  ⟨h'.os.trans h.os, h'.tape.trans h.tape, h'.output.trans h.output, Nat.le_trans h.size h'.size, fun k hk hg => (h'.block k (Nat.lt_of_lt_of_le hk h.size) (fun e => hg (hd k hk e))).trans (h.block k hk hg)⟩
theorem Fr.mono (h : Fr D w w') (hd : ∀ k, k < w.heap.size → D k → D' k) : Fr D' w w' := ⟨h.os, h.tape, h.output, h.size, fun k hk hg => h.block k hk (fun e => hg (hd k hk e))⟩
theorem Fr.of_below (D : Nat → Prop) (h : Below w.heap.size w w') : Fr D w w' := ⟨h.os, h.tape, h.output, h.size, fun k hk _ => h.block k hk⟩
theorem Fr.of_grown {row : Option Nat} (h : w.grownBy w' row) : Fr (fun k => row = some k) w w' := ⟨h.os, h.tape, h.output, h.size, fun k hk hg => h.block k hk (fun e => hg e.symm)⟩
theorem Fr.below {B : Nat} (h : Fr D w w') (hB : B ≤ w.heap.size) (hD : ∀ k, k < B → ¬ D k) : Below B w w' := ⟨h.os, h.tape, h.output, h.size, fun k hk => h.block k (by omega) (hD k hk)⟩
theorem Fr.setCell (w : World) (p : Addr) (v : Value) : Fr (fun k => k = p.block) w (w.setCell p v) := ⟨rfl, rfl, rfl, by simp [World.setCell], fun k _ hg => Below.heap_setCell _ _ _ _ hg⟩
theorem Fr.drewN (h : Fr D w w') (n : Nat) : Fr D w (w'.drewN n) := ⟨h.os, h.tape, h.output, h.size, h.block⟩
theorem Rd.fr {B n : Nat} {A : Option Addr} {g : Nat → Value} (h : Rd w B A n g) (hf : Fr D w w') (hA : ∀ k, blockOf A = some k → ¬ D k) : Rd w' B A n g := fun hn => by
  obtain ⟨b, off, rfl, hb, hc⟩ := h hn
  exact ⟨b, off, rfl, hb, fun j hj => (World.cell?_of_block (hf.block b (World.block_lt_of_cell? _ _ (hc j hj)) (hA b rfl))).trans (hc j hj)⟩
theorem Own.fr {B e size n c : Nat} {A : Option Addr} {xs : List Value} (h : Own w B e size A n c xs) (hf : Fr D w w') (hA : ∀ k, blockOf A = some k → ¬ D k) : Own w' B e size A n c xs := by
  refine ⟨h.1, ?_⟩
  rcases h.2 with h0 | ⟨g, cap, cur, hv, hg, hh, rest⟩
  · exact .inl h0
  · have hA' : A = some ⟨g, 0, none⟩ := by injection hv
    exact .inr ⟨g, cap, cur, hv, hg, (hf.block g (lt_of_block hh) (hA g (by rw [hA']; rfl))).trans hh, rest⟩
end
theorem Flt.fr {w w' : World} {B g h c : Nat} {A : Option Addr} {l : List Nat} {D : Nat → Prop} (f : Flt w B g A c l h) (hf : Fr D w w') (hg : ¬ D g) (hA : ∀ k, blockOf A = some k → ¬ D k) : Flt w' B g A c l h :=
  { f with blk := (hf.block g f.lt_ hg).trans f.blk, row := ⟨fun hp => by
      obtain ⟨a, cs, e, hB, ha⟩ := f.row.row hp
      exact ⟨a, cs, e, hB, (hf.block a (Array.getElem?_eq_some_iff.1 ha).1 (hA a (by rw [e]; rfl))).trans ha⟩⟩ }
theorem Flt.ne {w : World} {B g h c : Nat} {A : Option Addr} {l : List Nat} (f : Flt w B g A c l h) : blockOf A ≠ some g := fun he => by
  obtain ⟨a, e, _, _, hne, _⟩ := f.at
  rw [e] at he
  injection he with he
  exact hne he
/-- A word written. -/
theorem Flt.put {w : World} {B g h c a : Nat} {l : List Nat} (f : Flt w B g (some ⟨a, 0, none⟩) c l h) (j y : Nat) (hj : j < l.length) (hy : y < 18446744073709551616) : Flt (w.setCell ⟨a, j, none⟩ (.int .u64 (y : Int))) B g (some ⟨a, 0, none⟩) c (l.set j y) h := by
  obtain ⟨a', cs, e, hB, ha⟩ := f.row.row f.n1
  injection e with e
  injection e with e
  subst e
  have hne : g ≠ a := fun q => f.ne (by rw [q]; rfl)
  refine ⟨?_, f.gB, ⟨fun _ => ⟨a, cs, rfl, hB, ?_⟩⟩, f.h1, f.h16, by rw [List.length_set]; exact f.n1, by rw [List.length_set]; exact f.nm, by rw [List.length_set]; exact f.lc, fun x hx => ?_⟩
  · rw [heap_setCell_other _ _ g _ hne, List.length_set]
    exact f.blk
  · rw [heap_setCell_same w a j _ _ _ ha]
    have hl : j < (u64s l).length := by rw [u64s_length]; exact hj
    have e2 : ((u64s l ++ cs).set j (.int .u64 (y : Int))) = u64s (l.set j y) ++ cs := by
      rw [List.set_append_left _ _ hl]
      simp [u64s, List.map_set]
    simp only [List.setIfInBounds_toArray, e2]
  · rcases List.mem_or_eq_of_mem_set hx with q | q
    · exact f.lt x q
    · rw [q]
      exact hy
theorem Flt.fz {w : World} {B g h c a : Nat} {l : List Nat} (f : Flt w B g (some ⟨a, 0, none⟩) c l h) (j : Nat) : w.frozen? ⟨a, j, none⟩ = false := by
  obtain ⟨a', cs, e, hB, ha⟩ := f.row.row f.n1
  injection e with e
  injection e with e
  subst e
  simp [World.frozen?, ha]
/-- A key's numbers, its places. -/
def avQ (a b i : Nat) : Nat := (a + i * b) % 18446744073709551616
def atQ (a b N i : Nat) : Nat := avQ a b i % N
theorem avQ_next (a b i : Nat) : (avQ a b i + b) % 18446744073709551616 = avQ a b (i + 1) := by
  unfold avQ
  rw [Nat.add_mul, Nat.one_mul]
  omega
def bitAt (l : List Nat) (p : Nat) : Bool := !decide ((l[p / 64]?.getD 0) &&& 2 ^ (p % 64) = 0)
def setAt (l : List Nat) (p : Nat) : List Nat := l.set (p / 64) ((l[p / 64]?.getD 0) ||| 2 ^ (p % 64))
theorem setAt_length (l : List Nat) (p : Nat) : (setAt l p).length = l.length := by simp [setAt]
def addQ (a b N : Nat) (l : List Nat) : Nat → List Nat × Bool
  | 0 => (l, false)
  | i + 1 => (setAt (addQ a b N l i).1 (atQ a b N i), (addQ a b N l i).2 || !bitAt (addQ a b N l i).1 (atQ a b N i))
def hasQ (a b N : Nat) (l : List Nat) : Nat → Bool
  | 0 => true
  | i + 1 => hasQ a b N l i && bitAt l (atQ a b N i)
theorem addQ_length (a b N : Nat) (l : List Nat) : ∀ i, (addQ a b N l i).1.length = l.length
  | 0 => rfl
  | i + 1 => by rw [addQ, setAt_length, addQ_length a b N l i]
/-- A key's first and second number. -/
def k1Q (k : List Nat) : Nat := leN (k.take 8)
def k2Q (k : List Nat) : Nat := leN ((k.drop 8).take 8)
end Go.Proofs.Ytlghgfnkckaebaa
