/- Kids of an object: words ahead of the walks. -/
import Derived.Test.YtkjndgapejbgcaaDoorCopS
import Derived.BigRegion
import Derived.Deep.RegionHeld3
namespace Go.Proofs.YtkjndgapejbgcaaDoor
open Go.RowKit
set_option linter.unusedSimpArgs false

def kidsL (o : ObjT) : List Key32 := if o.kind = 2 then o.parts.map (·.1) else if o.kind = 3 then o.items.map (·.2.2.2) else if o.kind = 4 then o.tree :: o.parents else []
theorem zeroP (w : World) : (zeroValue 47).run Tryd.prog w = .ok (.agg (encP (zK, 0)).toArray) w :=
  (zero_of_info (P := Tryd.prog) (t := 47) (v := .agg (encP (zK, 0)).toArray) (n := 33) (by kernel_rfl)).1 w
theorem zeroI (w : World) : (zeroValue 50).run Tryd.prog w = .ok (.agg (encI (⟨#[]⟩, 0, 0, zK)).toArray) w :=
  (zero_of_info (P := Tryd.prog) (t := 50) (v := .agg (encI (⟨#[]⟩, 0, 0, zK)).toArray) (n := 35) (by kernel_rfl)).1 w
theorem built1 (x : Key32) : Tryd.prog.builtSlice 28 1 [(0, .agg (encK x).toArray)] = some (encK x).toArray := by
  obtain ⟨i, hi, hz0, hz1, _⟩ := info_parts elK.hi
  unfold Program.builtSlice
  simp only [hi, hz0, hz1]
  rw [if_neg (by decide)]
  refine Eq.trans (b := some (([Value.agg (encK x).toArray]).flatMap fun v => v.cells.toList).toArray) (Great.fill_whole (s := 32) (by decide) [.agg (encK x).toArray] _ ?_ ?_) ?_
  · intro v hv
    simp at hv
    subst hv
    simp [Value.cells, encK_length]
  · simp
  · simp [Value.cells]
theorem elemK_ok (n : Nat) (h : n * 32 ≤ 140737488355328) : n + 1 ≤ maxLen ∧ (n + 1 + (n + 1) / 4 + 192) * 32 ≤ 281474976710656 := by
  unfold maxLen
  constructor <;> omega
theorem take_map {α β : Type} (f : α → β) {l : List α} {k : Nat} {x : α} (hk : k < l.length) (hx : l[k] = x) : (l.take (k + 1)).map f = (l.take k).map f ++ [f x] := by
  rw [List.take_succ_eq_append_getElem hk, hx, List.map_append]
  rfl
theorem encP_key (x : PartT) : ∀ (j : Nat) (v : Value), (encK x.1)[j]? = some v → (encP x)[j]? = some v := fun j v hv => by
  have h : j < (u8s x.1.1).length := (List.getElem?_eq_some_iff.1 hv).1
  unfold encP
  rw [List.getElem?_append_left h]
  exact hv
theorem encI_key (x : ItemT) : ∀ (j : Nat) (v : Value), (encK x.2.2.2)[j]? = some v → (encI x)[3 + j]? = some v := fun j v hv => by
  unfold encI
  rw [List.getElem?_append_right (by simp)]
  simpa [encK] using hv
/-- What stands while kids are told. -/
structure KSt (w wr : World) (o : ObjT) (p : Lay) : Prop where
  bel : Below w.heap.size w wr
  blk : OBlk wr w.heap.size o p
theorem KSt.below {w wr w' : World} {o : ObjT} {p : Lay} (h : KSt w wr o p) (hb : Below (w.heap.size + 1) wr w') : KSt w w' o p := ⟨h.bel.trans (hb.mono (by omega)), h.blk.below hb (by omega)⟩
theorem KSt.le {w wr : World} {o : ObjT} {p : Lay} (h : KSt w wr o p) : w.heap.size + 1 ≤ wr.heap.size := lt_of_block h.blk
theorem KSt.start {w : World} {o : ObjT} {p : Lay} : KSt w (w.alloc (.cells (ocells o p).toArray 31)) o p := ⟨(Below.refl _ _).alloc (Nat.le_refl _) _, heap_alloc_new w _⟩
/-- An element copied into a block of its own. -/
theorem row_new (w : World) (t : TypeId) (z x : Array Value) : ((w.alloc (.cells z t)).setRow w.heap.size x).heap[w.heap.size]? = some (.cells x t (0, 0)) ∧ ∀ B, B ≤ w.heap.size → Below B w ((w.alloc (.cells z t)).setRow w.heap.size x) :=
  ⟨setRow_heap _ w.heap.size _ _ _ _ (heap_alloc_new w _), fun _ hB => setRow_below ((Below.refl _ _).alloc hB _) hB _⟩
theorem range_of {w : World} {g : Nat} {cs : List Value} {t : TypeId} (h : w.heap[g]? = some (.cells cs.toArray t (0, 0))) {k : Nat} {ks : List Value} (hk : ∀ (j : Nat) (v : Value), ks[j]? = some v → cs[k + j]? = some v) : w.rangeAt g k ks := fun j v hv => by
  rw [cell_of_row _ _ _ _ _ _ h]
  simpa using hk j v hv

end Go.Proofs.YtkjndgapejbgcaaDoor
