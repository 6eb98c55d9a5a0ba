/- Keys in memory: arrays of 32 bytes. -/
import Derived.Test.YtgjokkjmljdmbaaHexP
import Derived.Test.YtgjokkjmljdmbaaOwn2
import Derived.Test.YtgjokkjmljdmbaaArrEq
import Derived.Test.YtgjokkjmljdmbaaProg
import Derived.Laws.Tables
import Derived.Deep.MidRow
import Derived.Deep.WholeRow
namespace Go.Proofs.Ytgjokkjmljdmbaa
open Go.RowKit
set_option linter.unusedSimpArgs false

def zeros (n : Nat) : List Nat := List.replicate n 0
theorem setRow_below {B : Nat} {a w : World} (h : Below B a w) {g : Nat} (hg : B ≤ g) (cs : Array Value) : Below B a (w.setRow g cs) :=
  h.trans ⟨rfl, rfl, rfl, by simp, fun k hk => setRow_other _ _ _ _ (by omega)⟩
theorem u8s_set (l : List Nat) (k y : Nat) : (u8s l).set k (.int .u8 (y : Int)) = u8s (l.set k y) := by
  simp [u8s, List.map_set]
theorem zeroKy (w : World) : (zeroValue 29).run Try.prog w = .ok (.agg (u8s (zeros 32)).toArray) w :=
  (zero_of_info (P := Try.prog) (t := 29) (v := .agg (u8s (zeros 32)).toArray) (n := 32) (by kernel_rfl)).1 w
/-- A block that holds a key's bytes. -/
def BlkY (w : World) (g : Nat) (l : List Nat) : Prop := w.heap[g]? = some (.cells (u8s l).toArray 29 (0, 0))
theorem BlkY.cell {w : World} {g : Nat} {l : List Nat} (h : BlkY w g l) {k : Nat} (hk : k < l.length) : w.cell? ⟨g, k, none⟩ = some (.int .u8 ((l[k]?.getD 0 : Nat) : Int)) := by
  rw [cell_of_row _ _ _ _ _ _ h, List.getElem?_toArray]
  exact u8s_get l k hk
theorem BlkY.frozen {w : World} {g : Nat} {l : List Nat} (h : BlkY w g l) (k : Nat) : w.frozen? ⟨g, k, none⟩ = false := frozen_of_row _ _ _ _ _ h
theorem BlkY.lt {w : World} {g : Nat} {l : List Nat} (h : BlkY w g l) : g < w.heap.size := (Array.getElem?_eq_some_iff.1 h).1
theorem BlkY.below {w w' : World} {g : Nat} {l : List Nat} (h : BlkY w g l) (hb : Below w.heap.size w w') : BlkY w' g l := (hb.block g h.lt).trans h
theorem BlkY.set {w : World} {g : Nat} {l : List Nat} (h : BlkY w g l) (k x : Nat) : BlkY (w.setCell ⟨g, k, none⟩ (.int .u8 (x : Int))) g (l.set k x) := by
  have := heap_setCell_same w g k _ _ (.int .u8 (x : Int)) h
  unfold BlkY
  rw [this]
  simp [u8s, List.map_set]
theorem BlkY.far {w : World} {g : Nat} {l : List Nat} (h : BlkY w g l) {p : Addr} (hp : g ≠ p.block) (u : Value) : BlkY (w.setCell p u) g l := (heap_setCell_other w p g u hp).trans h
theorem BlkY.new (w : World) (l : List Nat) : BlkY (w.alloc (.cells (u8s l).toArray 29)) w.heap.size l := heap_alloc_new w _
theorem BlkY.alloc {w : World} {g : Nat} {l : List Nat} (h : BlkY w g l) (o : Obj) : BlkY (w.alloc o) g l := (Below.heap_alloc w o g h.lt).trans h
section
variable {P : Program} {ops : Array Oper} {rest : List Oper} {o : Oper} {a : Act} {w : World} {Q : Exit → Act → World → Prop}
/-- A guarded load of a whole array. -/
theorem wpList_load_row_g (hw : Region.wanted o (yielded ops a.tmps) = true) (ty : TypeId) (x : Operand) (ho : o.op = .load ty x)
    (g : Nat) (hx : a.eval x = .pointer (some ⟨g, 0, none⟩)) (t : TypeId) (cs : Array Value) (fr : Nat × Nat) (d : TypeDesc) (hg : w.heap[g]? = some (.cells cs t fr))
    (hu : P.underlying ty = some d) (hd : (match d with | .struct _ | .array _ _ => true | _ => false) = true) (hi : (P.info? ty).map (·.size) = some cs.size)
    (h : wpList P ops Q rest (a.put o.dst (.agg cs)) w) : wpList P ops Q (o :: rest) a w :=
  wpList_step fun K hK => by
    rw [if_pos hw]
    exact wp_load_row ty x ho g hx t cs fr d hg hu hd hi (hK _ _ h)
end

theorem eqK {l l' : List Nat} (h : l.length = 32) (h' : l'.length = 32) (w : World) : (binOp .eql 29 (.agg (u8s l).toArray) (.agg (u8s l').toArray)).run Try.prog w = .ok (.bool (decide (l = l'))) w := by
  obtain ⟨i, hi⟩ := Option.isSome_iff_exists.1 (show (Try.prog.info? 5).isSome = true by kernel_rfl)
  exact eql_nrow (k := .u8) Try.underlying29 Try.underlying5 (by kernel_rfl) hi h h'
theorem neK {l l' : List Nat} (h : l.length = 32) (h' : l'.length = 32) (w : World) : (binOp .neq 29 (.agg (u8s l).toArray) (.agg (u8s l').toArray)).run Try.prog w = .ok (.bool (!decide (l = l'))) w := by
  obtain ⟨i, hi⟩ := Option.isSome_iff_exists.1 (show (Try.prog.info? 5).isSome = true by kernel_rfl)
  exact neq_nrow (k := .u8) Try.underlying29 Try.underlying5 (by kernel_rfl) hi h h'

/-- A key laid in a new block. -/
theorem key_new (w : World) (D : List Nat) : BlkY ((w.alloc (.cells (u8s (zeros 32)).toArray 29)).setRow w.heap.size (u8s D).toArray) w.heap.size D ∧ Below w.heap.size w ((w.alloc (.cells (u8s (zeros 32)).toArray 29)).setRow w.heap.size (u8s D).toArray) :=
  ⟨setRow_heap _ w.heap.size _ _ _ _ (heap_alloc_new w _), setRow_below ((Below.refl _ _).alloc (Nat.le_refl _) _) (Nat.le_refl _) _⟩

theorem index32 {F : List Nat} {k x : Nat} (hk : k < 32) (hx : (u8s F)[k]? = some (.int .u8 (x : Int))) (w : World) : (Instr.index 29 (.agg (u8s F).toArray) (.int .i64 (k : Int))).run Try.prog w = .ok (.int .u8 (x : Int)) w := by
  have hs : (sizeOf 5).run Try.prog w = .ok 1 w := by kernel_rfl
  have hp : Try.prog.plainKey 5 = true := by simp [Program.plainKey, Try.underlying5]
  have hpart : (part 5 (u8s F).toArray k).run Try.prog w = .ok (.int .u8 (x : Int)) w := run_part_plain w hp (by rw [List.getElem?_toArray]; exact hx)
  have h1 : (0 : Int) ≤ (k : Int) ∧ (k : Int) < 32 := by omega
  simp [Instr.index, run_underlying Try.underlying29, asIntOf, h1, hs, hpart]
  intro h
  omega
end Go.Proofs.Ytgjokkjmljdmbaa
