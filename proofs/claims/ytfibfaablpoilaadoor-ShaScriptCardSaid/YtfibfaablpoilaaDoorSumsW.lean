/- ShaSums: the law's walk. -/
import Derived.Test.YtfibfaablpoilaaDoorSum
import Derived.Test.YtfibfaablpoilaaDoorRefSum
import Derived.Test.YtfibfaablpoilaaDoorLeft
namespace Go.Proofs.YtfibfaablpoilaaDoor
open Go.RowKit
set_option linter.unusedSimpArgs false

section
variable {P : Program} {ops : Array Oper} {rest : List Oper} {o : Oper} {a : Act} {w : World} {Q : Exit → Act → World → Prop}
/-- A guarded load of a whole array. -/
theorem wpList_load_row_g (hw : Region.wanted o (yielded ops a.tmps) = true) (ty : TypeId) (x : Operand) (ho : o.op = .load ty x)
    (g : Nat) (hx : a.eval x = .pointer (some ⟨g, 0, none⟩)) (t : TypeId) (cs : Array Value) (fr : Nat × Nat) (d : TypeDesc) (hg : w.heap[g]? = some (.cells cs t fr))
    (hu : P.underlying ty = some d) (hd : (match d with | .struct _ | .array _ _ => true | _ => false) = true) (hi : (P.info? ty).map (·.size) = some cs.size)
    (h : wpList P ops Q rest (a.put o.dst (.agg cs)) w) : wpList P ops Q (o :: rest) a w :=
  wpList_step fun K hK => by
    rw [if_pos hw]
    exact wp_load_row ty x ho g hx t cs fr d hg hu hd hi (hK _ _ h)
end

theorem eqK {l l' : List Nat} (h : l.length = 32) (h' : l'.length = 32) (w : World) : (binOp .eql 34 (.agg (u8s l).toArray) (.agg (u8s l').toArray)).run Tryd.prog w = .ok (.bool (decide (l = l'))) w := by
  obtain ⟨i, hi⟩ := Option.isSome_iff_exists.1 (show (Tryd.prog.info? 5).isSome = true by kernel_rfl)
  exact eql_nrow (k := .u8) Tryd.underlying34 Tryd.underlying5 (by kernel_rfl) hi h h'
theorem neK {l l' : List Nat} (h : l.length = 32) (h' : l'.length = 32) (w : World) : (binOp .neq 34 (.agg (u8s l).toArray) (.agg (u8s l').toArray)).run Tryd.prog w = .ok (.bool (!decide (l = l'))) w := by
  obtain ⟨i, hi⟩ := Option.isSome_iff_exists.1 (show (Tryd.prog.info? 5).isSome = true by kernel_rfl)
  exact neq_nrow (k := .u8) Tryd.underlying34 Tryd.underlying5 (by kernel_rfl) hi h h'

/-- All tables. -/
structure Tabs (w : World) (ks : List Nat) : Prop where
  t : Tab w ks
  r : RTab w ks
  b : BTab w
theorem Tabs.below {w w' : World} {ks : List Nat} (h : Tabs w ks) (hb : Below w.heap.size w w') : Tabs w' ks := ⟨h.t.below hb, h.r.below hb, h.b.below hb⟩

/-- A key laid in a new block. -/
theorem key_new (w : World) (D : List Nat) : Blk8 ((w.alloc (.cells (u8s (zeros 32)).toArray 34)).setRow w.heap.size (u8s D).toArray) w.heap.size D ∧ Below w.heap.size w ((w.alloc (.cells (u8s (zeros 32)).toArray 34)).setRow w.heap.size (u8s D).toArray) :=
  ⟨setRow_heap _ w.heap.size _ _ _ _ (heap_alloc_new w _), setRow_below ((Below.refl _ _).alloc (Nat.le_refl _) _) (Nat.le_refl _) _⟩

/-- The first i bytes turned. -/
def flipTo (b : List Nat) (i : Nat) : List Nat := (b.take i).map (fun x => x ^^^ 1) ++ b.drop i
theorem flipTo_length (b : List Nat) (i : Nat) : (flipTo b i).length = b.length := by simp [flipTo]; omega
theorem xor1_lt {x : Nat} (h : x < 256) : x ^^^ 1 < 256 := Nat.xor_lt_two_pow (n := 8) h (by decide)
theorem flipTo_lt {b : List Nat} (h : ∀ x ∈ b, x < 256) (i : Nat) : ∀ x ∈ flipTo b i, x < 256 := by
  intro x hx
  rcases List.mem_append.1 hx with h1 | h1
  · obtain ⟨y, hy, rfl⟩ := List.mem_map.1 h1
    exact xor1_lt (h y (List.mem_of_mem_take hy))
  · exact h x (List.mem_of_mem_drop h1)
theorem flipTo_zero (b : List Nat) : flipTo b 0 = b := by simp [flipTo]
theorem flipTo_get {b : List Nat} {i : Nat} (h : i < b.length) : (flipTo b i)[i]?.getD 0 = b[i]?.getD 0 := by
  unfold flipTo
  rw [List.getElem?_append_right (by simp; omega)]
  simp [Nat.min_eq_left (Nat.le_of_lt h)]
theorem flipTo_set {b : List Nat} {i : Nat} (h : i < b.length) : (flipTo b i).set i (b[i]?.getD 0 ^^^ 1) = flipTo b (i + 1) := by
  unfold flipTo
  rw [List.set_append_right _ _ (by simp; omega), List.length_map, List.length_take, Nat.min_eq_left (Nat.le_of_lt h), Nat.sub_self, List.take_succ_eq_append_getElem h, List.map_append, List.append_assoc]
  congr 1
  rw [List.drop_eq_getElem_cons h, List.set_cons_zero]
  simp [h]
end Go.Proofs.YtfibfaablpoilaaDoor
