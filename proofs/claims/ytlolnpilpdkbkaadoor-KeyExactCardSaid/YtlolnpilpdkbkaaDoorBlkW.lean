/- Words on the rows of the walks of SHA-256. -/
import Derived.Test.YtlolnpilpdkbkaaDoorStart
import Derived.Test.YtlolnpilpdkbkaaDoorArrEq
import Derived.Deep.CutRange
import Derived.Deep.RegionLaw
import Derived.Deep.RegionHeld3
namespace Go.Proofs.YtlolnpilpdkbkaaDoor
open Go.RowKit
set_option linter.unusedSimpArgs false

/-- The first k numbers of a list, the rest 0. -/
def padTo (n : Nat) (l : List Nat) (k : Nat) : List Nat := l.take k ++ zerW (n - k)
theorem padTo_len {n k : Nat} {l : List Nat} (h : k ≤ n) (h2 : k ≤ l.length) : (padTo n l k).length = n := by simp [padTo, zerW]; omega
theorem padTo_set {n k : Nat} {l : List Nat} (h : k < n) (h2 : k < l.length) : (padTo n l k).set k (l[k]?.getD 0) = padTo n l (k + 1) := by
  unfold padTo zerW
  rw [List.set_append_right _ _ (by simp; omega), List.length_take, Nat.min_eq_left (by omega), Nat.sub_self]
  obtain ⟨m, hm⟩ : ∃ m, n - k = m + 1 := ⟨n - k - 1, by omega⟩
  rw [hm, List.replicate_succ, show n - (k + 1) = m by omega, List.take_succ_eq_append_getElem h2, List.getElem?_eq_getElem h2, Option.getD_some, List.set_cons_zero, List.append_assoc]
  rfl
theorem padTo_lt {n k B : Nat} {l : List Nat} (hB : 0 < B) (hl : ∀ x ∈ l, x < B) : ∀ x ∈ padTo n l k, x < B := by
  intro x hx
  rcases List.mem_append.1 hx with h | h
  · exact hl x (List.mem_of_mem_take h)
  · have := (List.mem_replicate.1 h).2
    omega

/-- A row of words. -/
abbrev Wds (w : World) (B : Nat) (A : Option Addr) (l : List Nat) : Prop := Rd w B A l.length (fun j => .int .u32 ((l[j]?.getD 0 : Nat) : Int))

/-- What stands while the state is filled. -/
structure FB (w wr : World) (c0 c1 : Value) (L : List Nat) : Prop where
  bel : Below w.heap.size w wr
  box0 : wr.cell? ⟨w.heap.size, 0, none⟩ = some c0
  box1 : wr.cell? ⟨w.heap.size, 1, none⟩ = some c1
  st : Blk32 wr (w.heap.size + 1) 61 L
theorem FB.set {w wr : World} {c0 c1 : Value} {L : List Nat} (h : FB w wr c0 c1 L) (k x : Nat) : FB w (wr.setCell ⟨w.heap.size + 1, k, none⟩ (.int .u32 (x : Int))) c0 c1 (L.set k x) where
  bel := h.bel.setCell (p := ⟨w.heap.size + 1, k, none⟩) (by simp) _
  box0 := (World.cell?_setCell_other wr _ _ _ (by simp)).trans h.box0
  box1 := (World.cell?_setCell_other wr _ _ _ (by simp)).trans h.box1
  st := h.st.set k x
/-- What stands while the block is filled. -/
structure FC (w wr : World) (c0 c1 : Value) (L : List Nat) (g : Nat) (M : List Nat) : Prop where
  fb : FB w wr c0 c1 L
  blk : wr.heap[g]? = some (.cells (u8row M) 62 (0, 0))
  gt : w.heap.size + 1 < g
theorem u8row_set (l : List Nat) (k x : Nat) : (u8row l).setIfInBounds k (.int .u8 (x : Int)) = u8row (l.set k x) := by simp [u8row, u8s, List.map_set]
theorem FC.set {w wr : World} {c0 c1 : Value} {L M : List Nat} {g : Nat} (h : FC w wr c0 c1 L g M) (k x : Nat) : FC w (wr.setCell ⟨g, k, none⟩ (.int .u8 (x : Int))) c0 c1 L g (M.set k x) where
  fb := ⟨h.fb.bel.setCell (p := ⟨g, k, none⟩) (by have := h.gt; simp; omega) _, (World.cell?_setCell_other wr _ _ _ (by have := h.gt; simp; try omega)).trans h.fb.box0, (World.cell?_setCell_other wr _ _ _ (by have := h.gt; simp; try omega)).trans h.fb.box1, h.fb.st.far (p := ⟨g, k, none⟩) (by have := h.gt; simp; omega) _⟩
  blk := by
    have := heap_setCell_same wr g k _ _ (.int .u8 (x : Int)) h.blk
    rw [u8row_set] at this
    exact this
  gt := h.gt
theorem FC.keep {w wr w' : World} {c0 c1 : Value} {L M : List Nat} {g : Nat} (h : FC w wr c0 c1 L g M) (hb : Below wr.heap.size wr w') : FC w w' c0 c1 L g M where
  fb := ⟨h.fb.bel.trans (hb.mono h.fb.bel.size), (hb.cell (by have := h.fb.st.lt; simp; omega)).trans h.fb.box0, (hb.cell (by have := h.fb.st.lt; simp; omega)).trans h.fb.box1, h.fb.st.below hb h.fb.st.lt⟩
  blk := (hb.block g (Array.getElem?_eq_some_iff.1 h.blk).1).trans h.blk
  gt := h.gt

theorem zero64b (w : World) : (zeroValue 62).run Tryd.prog w = .ok (.agg (u8row (zerW 64))) w :=
  (zero_of_info (P := Tryd.prog) (t := 62) (v := .agg (u8row (zerW 64))) (n := 64) (by kernel_rfl)).1 w
theorem u8row_frozen {w : World} {g : Nat} {t : TypeId} {M : List Nat} (h : w.heap[g]? = some (.cells (u8row M) t (0, 0))) (k : Nat) : w.frozen? ⟨g, k, none⟩ = false := frozen_of_row _ _ _ _ _ h

theorem load8 {w : World} {g : Nat} {t : TypeId} {l : List Nat} (h : Blk32 w g t l) (hl : l.length = 8) : (loadCellsFrom ⟨g, 0, none⟩ 0 8 #[]).run Tryd.prog w = .ok (u32s l).toArray w := by
  have := run_loadCells_list (P := Tryd.prog) w ⟨g, 0, none⟩ (u32s l) (fun j v hv => by
    have hadd : (⟨g, 0, none⟩ : Addr).add j = ⟨g, j, none⟩ := by unfold Addr.add; split <;> simp_all
    rw [hadd, cell_of_row _ _ _ _ _ _ h]
    simpa using hv)
  rw [u32s_length, hl] at this
  simpa [loadCells] using this
theorem store8 {w : World} {g : Nat} {t : TypeId} {l l' : List Nat} (h : Blk32 w g t l) (hl : l.length = l'.length) : (storeCells ⟨g, 0, none⟩ (u32s l') 0).run Tryd.prog w = .ok () (w.setRow g (u32s l').toArray) := by
  have := run_storeCells_from (P := Tryd.prog) g t (u32s l') 0 (u32s l).toArray w h (by simp [u32s, hl]) (fun v hv => by
    obtain ⟨x, _, rfl⟩ := List.mem_map.1 hv
    rfl)
  rw [this]
  rfl
theorem FC.drew {w wr : World} {c0 c1 : Value} {L M : List Nat} {g : Nat} (h : FC w wr c0 c1 L g M) : FC w wr.drew c0 c1 L g M := ⟨⟨h.fb.bel.drew, h.fb.box0, h.fb.box1, h.fb.st⟩, h.blk, h.gt⟩
theorem FC.byt {w wr : World} {c0 c1 : Value} {L M : List Nat} {g : Nat} (h : FC w wr c0 c1 L g M) : Byt wr wr.heap.size (some ⟨g, 0, none⟩) M := fun _ =>
  ⟨g, 0, rfl, (Array.getElem?_eq_some_iff.1 h.blk).1, fun j hj => by rw [Nat.zero_add]; exact u8row_cell h.blk hj⟩

theorem FC.put {w wr : World} {c0 c1 : Value} {L M : List Nat} {g k : Nat} (h : FC w wr c0 c1 L g M) (hk : g < k) (cs : Array Value) : FC w (wr.setRow k cs) c0 c1 L g M where
  fb := ⟨setRow_belS h.fb.bel (by have := h.gt; omega) _, (World.cell?_of_block (setRow_other _ _ _ _ (by have := h.gt; simp; omega))).trans h.fb.box0, (World.cell?_of_block (setRow_other _ _ _ _ (by have := h.gt; simp; omega))).trans h.fb.box1, (setRow_other _ _ _ _ (by have := h.gt; omega)).trans h.fb.st⟩
  blk := (setRow_other _ _ _ _ (by omega)).trans h.blk
  gt := h.gt
theorem FC.lt {w wr : World} {c0 c1 : Value} {L M : List Nat} {g : Nat} (h : FC w wr c0 c1 L g M) : g < wr.heap.size := (Array.getElem?_eq_some_iff.1 h.blk).1

/-- What stands while the answers are compared. -/
structure HB (w wr : World) (c0 c1 : Value) (L M : List Nat) (g g1 g2 : Nat) (L1 L2 : List Nat) : Prop where
  fc : FC w wr c0 c1 L g M
  k1 : Blk32 wr g1 61 L1
  k2 : Blk32 wr g2 61 L2
theorem HB.keep {w wr w' : World} {c0 c1 : Value} {L M L1 L2 : List Nat} {g g1 g2 : Nat} (h : HB w wr c0 c1 L M g g1 g2 L1 L2) (hb : Below wr.heap.size wr w') : HB w w' c0 c1 L M g g1 g2 L1 L2 :=
  ⟨h.fc.keep hb, h.k1.below hb h.k1.lt, h.k2.below hb h.k2.lt⟩
theorem Blk32.range {w : World} {g : Nat} {t : TypeId} {l : List Nat} (h : Blk32 w g t l) : w.rangeAt g 0 (u32s l) := fun j v hv => by
  rw [Nat.zero_add, cell_of_row _ _ _ _ _ _ h]
  simpa using hv
theorem u8row_range {w : World} {g : Nat} {t : TypeId} {M : List Nat} (h : w.heap[g]? = some (.cells (u8row M) t (0, 0))) : w.rangeAt g 0 (u8s M) := fun j v hv => by
  rw [Nat.zero_add, cell_of_row _ _ _ _ _ _ h]
  simpa [u8row] using hv
theorem eql8 {l l' : List Nat} (h : l.length = 8) (h' : l'.length = 8) (w : World) : (binOp .eql 61 (.agg (u32s l).toArray) (.agg (u32s l').toArray)).run Tryd.prog w = .ok (.bool (decide (l = l'))) w := by
  obtain ⟨i, hi⟩ := Option.isSome_iff_exists.1 (show (Tryd.prog.info? 60).isSome = true by kernel_rfl)
  exact eql_nrow (k := .u32) Tryd.underlying61 Tryd.underlying60 (by kernel_rfl) hi h h'

section
variable {P : Program} {ops : Array Oper} {o : Oper} {a : Act} {w : World} {K : Act → World → Prop} {Q : Exit → Act → World → Prop} {E : Prop}
/-- A whole array loaded, stored, within a region that draws. -/
theorem step_load_row (hgd : o.guard = none) (ty : TypeId) (x : Operand) (ho : o.op = .load ty x)
    (g : Nat) (hx : a.eval x = .pointer (some ⟨g, 0, none⟩)) (t : TypeId) (cs : Array Value) (fr : Nat × Nat) (d : TypeDesc) (hg : w.heap[g]? = some (.cells cs t fr))
    (hu : P.underlying ty = some d) (hd : (match d with | .struct _ | .array _ _ => true | _ => false) = true) (hi : (P.info? ty).map (·.size) = some cs.size)
    (h : K (a.put o.dst (.agg cs)) w) : if Region.wanted o (yielded ops a.tmps) = true then Oper.wp P o a w K Q else E := by
  rw [if_pos (by simp [Region.wanted, hgd])]
  exact wp_load_row ty x ho g hx t cs fr d hg hu hd hi h
theorem step_store_row (hgd : o.guard = none) (ty : TypeId) (x y : Operand) (ho : o.op = .store ty x y)
    (g : Nat) (cells : Array Value) (hx : a.eval x = .pointer (some ⟨g, 0, none⟩)) (hy : a.eval y = .agg cells)
    (t : TypeId) (old : Array Value) (hg : w.heap[g]? = some (.cells old t (0, 0))) (hi : (P.info? ty).map (·.size) = some cells.size)
    (hold : old.size = cells.size) (h1 : cells.all (·.oneCell') = true)
    (h : K (a.put o.dst undef) (w.setRow g cells)) : if Region.wanted o (yielded ops a.tmps) = true then Oper.wp P o a w K Q else E := by
  rw [if_pos (by simp [Region.wanted, hgd])]
  exact wp_store_row ty x y ho g cells hx hy t old hg hi hold h1 h
end
end Go.Proofs.YtlolnpilpdkbkaaDoor
