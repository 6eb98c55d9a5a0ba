/- Copied: what stands while the copy is made. Kids of an object: words ahead of the walks. -/
import Derived.Test.YtkjndgapejbgcaaDoorPkA5
import Derived.Deep.WholeRow
import Derived.Laws.Tables
import Derived.BigRegion
import Derived.Deep.RegionHeld3

namespace Go.Proofs.YtkjndgapejbgcaaDoor
open Go.RowKit
set_option linter.unusedSimpArgs false

def oZ : ObjT := ⟨0, [], [], [], zK, [], 0, ⟨#[]⟩⟩
def pZ : Lay := ⟨none, none, none, none, 0, 0, 0, 0⟩
theorem zeroO (w : World) : (zeroValue 31).run Tryd.prog w = .ok (.agg (ocells oZ pZ).toArray) w :=
  (zero_of_info (P := Tryd.prog) (t := 31) (v := .agg (ocells oZ pZ).toArray) (n := 39) (by kernel_rfl)).1 w

section
variable {w w' : World} {g : Nat} {o : ObjT} {p : Lay}
theorem OBlk.fz (h : OBlk w g o p) (j : Nat) : w.frozen? ⟨g, j, none⟩ = false := by simp [World.frozen?, h]
theorem OBlk.setD (h : OBlk w g o p) (A : Option Addr) (n c : Nat) (hn : n = o.data.length) : OBlk (w.setCell ⟨g, 1, none⟩ (.slice A n c)) g o { p with Ad := A, cd := c } := by
  subst hn
  have := heap_setCell_same w g 1 _ _ (.slice A o.data.length c) h
  unfold OBlk
  rw [this]
  simp [ocells]
theorem OBlk.setP (h : OBlk w g o p) (A : Option Addr) (n c : Nat) (hn : n = o.parts.length) : OBlk (w.setCell ⟨g, 2, none⟩ (.slice A n c)) g o { p with Ap := A, cp := c } := by
  subst hn
  have := heap_setCell_same w g 2 _ _ (.slice A o.parts.length c) h
  unfold OBlk
  rw [this]
  simp [ocells]
theorem OBlk.setI (h : OBlk w g o p) (A : Option Addr) (n c : Nat) (hn : n = o.items.length) : OBlk (w.setCell ⟨g, 3, none⟩ (.slice A n c)) g o { p with Ai := A, ci := c } := by
  subst hn
  have := heap_setCell_same w g 3 _ _ (.slice A o.items.length c) h
  unfold OBlk
  rw [this]
  simp [ocells]
theorem OBlk.setK (h : OBlk w g o p) (A : Option Addr) (n c : Nat) (hn : n = o.parents.length) : OBlk (w.setCell ⟨g, 36, none⟩ (.slice A n c)) g o { p with Ak := A, ck := c } := by
  subst hn
  have := heap_setCell_same w g 36 _ _ (.slice A o.parents.length c) h
  unfold OBlk
  rw [this]
  have h32 : (u8s o.tree.1).length = 32 := by simp [u8s, o.tree.2]
  simp only [ocells, List.setIfInBounds_toArray, List.set_cons_succ]
  rw [List.set_append_right _ _ (by omega), h32]
  rfl
theorem OBlk.far (h : OBlk w g o p) {a : Addr} (hp : g ≠ a.block) (u : Value) : OBlk (w.setCell a u) g o p := (heap_setCell_other w a g u hp).trans h
end

theorem setRow_below {B : Nat} {a w : World} (h : Below B a w) {g : Nat} (hg : B ≤ g) (cs : Array Value) : Below B a (w.setRow g cs) :=
  h.trans ⟨rfl, rfl, rfl, by simp, fun k hk => setRow_other _ _ _ _ (by omega)⟩

/-- What stands behind an object's lists that have been copied: of the first k of the four. -/
structure LentK (wr : World) (B : Nat) (o : ObjT) (p : Lay) (k : Nat) : Prop where
  d : 1 ≤ k → Own wr B 5 1 p.Ad (o.data.length + 70) p.cd (u8s (marked o.data 70))
  ps : 2 ≤ k → Own wr B 47 33 p.Ap (o.parts.length + 2) p.cp (flat encP (o.parts ++ [mkP, mkP]))
  xs : 3 ≤ k → Own wr B 50 35 p.Ai (o.items.length + 2) p.ci (flat encI (o.items ++ [mkI, mkI]))
  ks : 4 ≤ k → Own wr B 28 32 p.Ak (o.parents.length + 2) p.ck (flat encK (o.parents ++ [mkK, mkK]))
structure DisK (A : Option Addr) (p : Lay) (k : Nat) : Prop where
  d : 1 ≤ k → Dis A p.Ad
  ps : 2 ≤ k → Dis A p.Ap
  xs : 3 ≤ k → Dis A p.Ai
  ks : 4 ≤ k → Dis A p.Ak
theorem DisK.none (p : Lay) (k : Nat) : DisK none p k := by
  refine ⟨fun _ => ?_, fun _ => ?_, fun _ => ?_, fun _ => ?_⟩ <;> (intro j hj; cases hj)
section
variable {wr w' : World} {B : Nat} {o : ObjT} {p : Lay} {k : Nat} {A A' : Option Addr}
theorem LentK.app (h : LentK wr B o p k) (ha : AppAt wr w' A A') (hd : DisK A p k) : LentK w' B o p k ∧ DisK A' p k :=
  ⟨⟨fun c => ha.other (h.d c) (hd.d c), fun c => ha.other (h.ps c) (hd.ps c), fun c => ha.other (h.xs c) (hd.xs c), fun c => ha.other (h.ks c) (hd.ks c)⟩,
   ⟨fun c => ha.dis (h.d c) (hd.d c), fun c => ha.dis (h.ps c) (hd.ps c), fun c => ha.dis (h.xs c) (hd.xs c), fun c => ha.dis (h.ks c) (hd.ks c)⟩⟩
theorem LentK.far (h : LentK wr B o p k) {a : Addr} (hp : a.block < B) (u : Value) : LentK (wr.setCell a u) B o p k :=
  ⟨fun c => (h.d c).setFar hp u, fun c => (h.ps c).setFar hp u, fun c => (h.xs c).setFar hp u, fun c => (h.ks c).setFar hp u⟩
theorem LentK.setRow (h : LentK wr B o p k) {g : Nat} (hp : g < B) (cs : Array Value) : LentK (wr.setRow g cs) B o p k := by
  have key : ∀ {e : TypeId} {size n c : Nat} {A : Option Addr} {xs : List Value}, Own wr B e size A n c xs → Own (wr.setRow g cs) B e size A n c xs := fun {e size n c A xs} ho => by
    refine ⟨ho.1, ?_⟩
    rcases ho.2 with h2 | ⟨g2, cap, cur, hv, hg, hh, r⟩
    · exact Or.inl h2
    · exact Or.inr ⟨g2, cap, cur, hv, hg, (setRow_other wr g g2 _ (by omega)).trans hh, r⟩
  exact ⟨fun c => key (h.d c), fun c => key (h.ps c), fun c => key (h.xs c), fun c => key (h.ks c)⟩
theorem LentK.below (h : LentK wr B o p k) (hb : Below wr.heap.size wr w') : LentK w' B o p k :=
  ⟨fun c => (h.d c).below hb fun j hj => ((h.d c).lt j hj).2, fun c => (h.ps c).below hb fun j hj => ((h.ps c).lt j hj).2, fun c => (h.xs c).below hb fun j hj => ((h.xs c).lt j hj).2, fun c => (h.ks c).below hb fun j hj => ((h.ks c).lt j hj).2⟩
theorem LentK.base {B' : Nat} (h : LentK wr B o p k) (hB : B' ≤ B) : LentK wr B' o p k :=
  ⟨fun c => (h.d c).base hB, fun c => (h.ps c).base hB, fun c => (h.xs c).base hB, fun c => (h.ks c).base hB⟩
theorem LentK.objIn (h : LentK wr B o p 4) : ObjIn wr wr.heap.size o p := by
  refine ⟨?_, Own.row encP_length (h.ps (by omega)) rfl, Own.row encI_length (h.xs (by omega)) rfl, Own.row encK_length (h.ks (by omega)) rfl⟩
  have h1 := (h.d (by omega)).byt
  have := Rd.take h1 (m := o.data.length) (by rw [marked_length]; omega)
  refine Rd.congr this fun j hj => ?_
  rw [marked, List.getElem?_append_left hj]
end

/-- What stands while the copy is made. -/
structure CSt (w wr : World) (o : ObjT) (p : Lay) (k : Nat) : Prop where
  bel : Below w.heap.size w wr
  blk : OBlk wr w.heap.size o p
  res : OBlk wr (w.heap.size + 1) oZ pZ
  own : LentK wr (w.heap.size + 2) o p k
theorem CSt.le {w wr : World} {o : ObjT} {p : Lay} {k : Nat} (h : CSt w wr o p k) : w.heap.size + 2 ≤ wr.heap.size := lt_of_block h.res
theorem CSt.app {w wr w' : World} {o : ObjT} {p : Lay} {k : Nat} {A A' : Option Addr} (h : CSt w wr o p k) (ha : AppAt wr w' A A') (hb : Below (w.heap.size + 2) wr w') (hd : DisK A p k) : CSt w w' o p k ∧ DisK A' p k :=
  ⟨⟨h.bel.trans (hb.mono (by omega)), h.blk.below hb (by omega), h.res.below hb (by omega), (h.own.app ha hd).1⟩, (h.own.app ha hd).2⟩
theorem CSt.start {w : World} {o : ObjT} {p : Lay} : CSt w ((w.alloc (.cells (ocells o p).toArray 31)).alloc (.cells (ocells oZ pZ).toArray 31)) o p 0 :=
  ⟨((Below.refl _ _).alloc (Nat.le_refl _) _).alloc (by simp) _, heap_alloc2_old w _ _, heap_alloc2_new w _ _, ⟨fun c => by omega, fun c => by omega, fun c => by omega, fun c => by omega⟩⟩
theorem CSt.setD {w wr w1 : World} {o : ObjT} {p : Lay} (h : CSt w wr o p 0) (hb : Below (w.heap.size + 2) wr w1) {A : Option Addr} {n c : Nat} (hn : n = o.data.length) (ho : Own w1 (w.heap.size + 2) 5 1 A (o.data.length + 70) c (u8s (marked o.data 70))) :
    CSt w (w1.setCell ⟨w.heap.size, 1, none⟩ (.slice A n c)) o { p with Ad := A, cd := c } 1 :=
  ⟨(h.bel.trans (hb.mono (by omega))).setCell (p := ⟨w.heap.size, 1, none⟩) (Nat.le_refl _) _, (h.blk.below hb (by omega)).setD A n c hn, (h.res.below hb (by omega)).far (by simp) _, ⟨fun _ => ho.setFar (by simp) _, fun c => by omega, fun c => by omega, fun c => by omega⟩⟩
theorem CSt.setP {w wr : World} {o : ObjT} {p : Lay} (h : CSt w wr o p 1) {A : Option Addr} {n c : Nat} (hn : n = o.parts.length) (ho : Own wr (w.heap.size + 2) 47 33 A (o.parts.length + 2) c (flat encP (o.parts ++ [mkP, mkP]))) :
    CSt w (wr.setCell ⟨w.heap.size, 2, none⟩ (.slice A n c)) o { p with Ap := A, cp := c } 2 :=
  ⟨h.bel.setCell (p := ⟨w.heap.size, 2, none⟩) (Nat.le_refl _) _, h.blk.setP A n c hn, h.res.far (by simp) _, ⟨fun c => (h.own.d (by omega)).setFar (by simp) _, fun _ => ho.setFar (by simp) _, fun c => by omega, fun c => by omega⟩⟩
theorem CSt.setI {w wr : World} {o : ObjT} {p : Lay} (h : CSt w wr o p 2) {A : Option Addr} {n c : Nat} (hn : n = o.items.length) (ho : Own wr (w.heap.size + 2) 50 35 A (o.items.length + 2) c (flat encI (o.items ++ [mkI, mkI]))) :
    CSt w (wr.setCell ⟨w.heap.size, 3, none⟩ (.slice A n c)) o { p with Ai := A, ci := c } 3 :=
  ⟨h.bel.setCell (p := ⟨w.heap.size, 3, none⟩) (Nat.le_refl _) _, h.blk.setI A n c hn, h.res.far (by simp) _, ⟨fun c => (h.own.d (by omega)).setFar (by simp) _, fun c => (h.own.ps (by omega)).setFar (by simp) _, fun _ => ho.setFar (by simp) _, fun c => by omega⟩⟩
theorem CSt.setK {w wr : World} {o : ObjT} {p : Lay} (h : CSt w wr o p 3) {A : Option Addr} {n c : Nat} (hn : n = o.parents.length) (ho : Own wr (w.heap.size + 2) 28 32 A (o.parents.length + 2) c (flat encK (o.parents ++ [mkK, mkK]))) :
    CSt w (wr.setCell ⟨w.heap.size, 36, none⟩ (.slice A n c)) o { p with Ak := A, ck := c } 4 :=
  ⟨h.bel.setCell (p := ⟨w.heap.size, 36, none⟩) (Nat.le_refl _) _, h.blk.setK A n c hn, h.res.far (by simp) _, ⟨fun c => (h.own.d (by omega)).setFar (by simp) _, fun c => (h.own.ps (by omega)).setFar (by simp) _, fun c => (h.own.xs (by omega)).setFar (by simp) _, fun _ => ho.setFar (by simp) _⟩⟩
end Go.Proofs.YtkjndgapejbgcaaDoor

namespace Go.Proofs.YtkjndgapejbgcaaDoor
open Go.RowKit
set_option linter.unusedSimpArgs false

def kidsL (o : ObjT) : List Key32 := if o.kind = 2 then o.parts.map (·.1) else if o.kind = 3 then o.items.map (·.2.2.2) else if o.kind = 4 then o.tree :: o.parents else []
theorem zeroP (w : World) : (zeroValue 47).run Tryd.prog w = .ok (.agg (encP (zK, 0)).toArray) w :=
  (zero_of_info (P := Tryd.prog) (t := 47) (v := .agg (encP (zK, 0)).toArray) (n := 33) (by kernel_rfl)).1 w
theorem zeroI (w : World) : (zeroValue 50).run Tryd.prog w = .ok (.agg (encI (⟨#[]⟩, 0, 0, zK)).toArray) w :=
  (zero_of_info (P := Tryd.prog) (t := 50) (v := .agg (encI (⟨#[]⟩, 0, 0, zK)).toArray) (n := 35) (by kernel_rfl)).1 w
theorem built1 (x : Key32) : Tryd.prog.builtSlice 28 1 [(0, .agg (encK x).toArray)] = some (encK x).toArray := by
  obtain ⟨i, hi, hz0, hz1, _⟩ := info_parts elK.hi
  unfold Program.builtSlice
  simp only [hi, hz0, hz1]
  rw [if_neg (by decide)]
  refine Eq.trans (b := some (([Value.agg (encK x).toArray]).flatMap fun v => v.cells.toList).toArray) (Great.fill_whole (s := 32) (by decide) [.agg (encK x).toArray] _ ?_ ?_) ?_
  · intro v hv
    simp at hv
    subst hv
    simp [Value.cells, encK_length]
  · simp
  · simp [Value.cells]
theorem elemK_ok (n : Nat) (h : n * 32 ≤ 140737488355328) : n + 1 ≤ maxLen ∧ (n + 1 + (n + 1) / 4 + 192) * 32 ≤ 281474976710656 := by
  unfold maxLen
  constructor <;> omega
theorem take_map {α β : Type} (f : α → β) {l : List α} {k : Nat} {x : α} (hk : k < l.length) (hx : l[k] = x) : (l.take (k + 1)).map f = (l.take k).map f ++ [f x] := by
  rw [List.take_succ_eq_append_getElem hk, hx, List.map_append]
  rfl
theorem encP_key (x : PartT) : ∀ (j : Nat) (v : Value), (encK x.1)[j]? = some v → (encP x)[j]? = some v := fun j v hv => by
  have h : j < (u8s x.1.1).length := (List.getElem?_eq_some_iff.1 hv).1
  unfold encP
  rw [List.getElem?_append_left h]
  exact hv
theorem encI_key (x : ItemT) : ∀ (j : Nat) (v : Value), (encK x.2.2.2)[j]? = some v → (encI x)[3 + j]? = some v := fun j v hv => by
  unfold encI
  rw [List.getElem?_append_right (by simp)]
  simpa [encK] using hv
/-- What stands while kids are told. -/
structure KSt (w wr : World) (o : ObjT) (p : Lay) : Prop where
  bel : Below w.heap.size w wr
  blk : OBlk wr w.heap.size o p
theorem KSt.below {w wr w' : World} {o : ObjT} {p : Lay} (h : KSt w wr o p) (hb : Below (w.heap.size + 1) wr w') : KSt w w' o p := ⟨h.bel.trans (hb.mono (by omega)), h.blk.below hb (by omega)⟩
theorem KSt.le {w wr : World} {o : ObjT} {p : Lay} (h : KSt w wr o p) : w.heap.size + 1 ≤ wr.heap.size := lt_of_block h.blk
theorem KSt.start {w : World} {o : ObjT} {p : Lay} : KSt w (w.alloc (.cells (ocells o p).toArray 31)) o p := ⟨(Below.refl _ _).alloc (Nat.le_refl _) _, heap_alloc_new w _⟩
/-- An element copied into a block of its own. -/
theorem row_new (w : World) (t : TypeId) (z x : Array Value) : ((w.alloc (.cells z t)).setRow w.heap.size x).heap[w.heap.size]? = some (.cells x t (0, 0)) ∧ ∀ B, B ≤ w.heap.size → Below B w ((w.alloc (.cells z t)).setRow w.heap.size x) :=
  ⟨setRow_heap _ w.heap.size _ _ _ _ (heap_alloc_new w _), fun _ hB => setRow_below ((Below.refl _ _).alloc hB _) hB _⟩
theorem range_of {w : World} {g : Nat} {cs : List Value} {t : TypeId} (h : w.heap[g]? = some (.cells cs.toArray t (0, 0))) {k : Nat} {ks : List Value} (hk : ∀ (j : Nat) (v : Value), ks[j]? = some v → cs[k + j]? = some v) : w.rangeAt g k ks := fun j v hv => by
  rw [cell_of_row _ _ _ _ _ _ h]
  simpa using hk j v hv

end Go.Proofs.YtkjndgapejbgcaaDoor
