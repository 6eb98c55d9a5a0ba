/- KeyDigits: the law's walk. -/
import Derived.Test.YtlolnpilpdkbkaaDoorParseB
import Derived.Deep.RegionHeld3
namespace Go.Proofs.YtlolnpilpdkbkaaDoor
open Go.RowKit
set_option linter.unusedSimpArgs false

section
variable {P : Program} {ops : Array Oper} {rest : List Oper} {o : Oper} {a : Act} {w : World} {Q : Exit → Act → World → Prop}
/-- A guarded load of a range of cells. -/
theorem wpList_load_mid_g (hw : Region.wanted o (yielded ops a.tmps) = true) (ty : TypeId) (x : Operand) (ho : o.op = .load ty x)
    (b k : Nat) (hx : a.eval x = .pointer (some ⟨b, k, none⟩)) (cs : List Value) (d : TypeDesc) (hc : w.rangeAt b k cs)
    (hu : P.underlying ty = some d) (hd : d.isRow = true) (hi : (P.info? ty).map (·.size) = some cs.length)
    (h : wpList P ops Q rest (a.put o.dst (.agg cs.toArray)) w) : wpList P ops Q (o :: rest) a w :=
  wpList_step fun K hK => by
    rw [if_pos hw]
    exact wp_load_mid ty x ho b k hx cs d hc hu hd hi (hK _ _ h)
end

/-- The argument where the law has boxed it. -/
structure AB (w : World) (g : Nat) (t : ByteArray) (a b : List Nat) : Prop where
  ca : w.rangeAt g 2 (u8s a)
  cb : w.rangeAt g 34 (u8s b)
  ct : w.cell? ⟨g, 1, none⟩ = some (.string t)
  lt : g < w.heap.size
theorem AB.below {w w' : World} {g : Nat} {t : ByteArray} {a b : List Nat} (h : AB w g t a b) (hb : Below w.heap.size w w') : AB w' g t a b where
  ca := fun j v hv => (hb.cell (p := ⟨g, 2 + j, none⟩) h.lt).trans (h.ca j v hv)
  cb := fun j v hv => (hb.cell (p := ⟨g, 34 + j, none⟩) h.lt).trans (h.cb j v hv)
  ct := (hb.cell (p := ⟨g, 1, none⟩) h.lt).trans h.ct
  lt := Nat.lt_of_lt_of_le h.lt hb.size
def askL (A : Option Addr) (n c : Nat) (t : ByteArray) (a b : List Nat) : List Value := .slice A n c :: .string t :: (u8s a ++ u8s b)
theorem AB.new (w : World) (A : Option Addr) (n c : Nat) (t : ByteArray) (a b : List Nat) (ha : a.length = 32) (T : TypeId) : AB (w.alloc (.cells (askL A n c t a b).toArray T)) w.heap.size t a b where
  ca := fun j v hv => by
    have hj := (List.getElem?_eq_some_iff.1 hv).1
    rw [cell_of_row _ _ _ _ _ _ (heap_alloc_new w _), List.getElem?_toArray, askL, show 2 + j = j + 1 + 1 by omega, List.getElem?_cons_succ, List.getElem?_cons_succ, List.getElem?_append_left (by omega), hv]
  cb := fun j v hv => by
    have hj := (List.getElem?_eq_some_iff.1 hv).1
    have h32 : (u8s a).length = 32 := by rw [u8s_length, ha]
    rw [cell_of_row _ _ _ _ _ _ (heap_alloc_new w _), List.getElem?_toArray, askL, show 34 + j = (32 + j) + 1 + 1 by omega, List.getElem?_cons_succ, List.getElem?_cons_succ, List.getElem?_append_right (by omega), h32, show 32 + j - 32 = j by omega, hv]
  ct := by
    rw [cell_of_row _ _ _ _ _ _ (heap_alloc_new w _)]
    rfl
  lt := by simp

theorem AB.setRow {w : World} {g k : Nat} {t : ByteArray} {a b : List Nat} (h : AB w g t a b) (hk : g < k) (cs : Array Value) : AB (w.setRow k cs) g t a b where
  ca := fun j v hv => (World.cell?_of_block (a := ⟨g, 2 + j, none⟩) (setRow_other w k g cs (by omega))).trans (h.ca j v hv)
  cb := fun j v hv => (World.cell?_of_block (a := ⟨g, 34 + j, none⟩) (setRow_other w k g cs (by omega))).trans (h.cb j v hv)
  ct := (World.cell?_of_block (a := ⟨g, 1, none⟩) (setRow_other w k g cs (by omega))).trans h.ct
  lt := by rw [Go.size_setRow]; exact h.lt
end Go.Proofs.YtlolnpilpdkbkaaDoor
