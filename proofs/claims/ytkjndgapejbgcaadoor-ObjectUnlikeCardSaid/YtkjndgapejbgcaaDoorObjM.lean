/- An object's value and its block. -/
import Derived.Test.YtkjndgapejbgcaaDoorEqual
import Derived.Laws.IdiomStrings
import Derived.Laws.BytesArg
namespace Go.Proofs.YtkjndgapejbgcaaDoor
open Go.RowKit
set_option linter.unusedSimpArgs false

structure ObjT where
  kind : Nat
  data : List Nat
  parts : List PartT
  items : List ItemT
  tree : Key32
  parents : List Key32
  time : Int
  note : ByteArray
/-- Where an object's lists lie. -/
structure Lay where
  Ad : Option Addr
  Ap : Option Addr
  Ai : Option Addr
  Ak : Option Addr
  cd : Nat
  cp : Nat
  ci : Nat
  ck : Nat
def ocells (o : ObjT) (p : Lay) : List Value :=
  .int .u8 (o.kind : Int) :: .slice p.Ad o.data.length p.cd :: .slice p.Ap o.parts.length p.cp :: .slice p.Ai o.items.length p.ci :: (u8s o.tree.1 ++ [.slice p.Ak o.parents.length p.ck, .int .i64 o.time, .string o.note])
theorem ocells_length (o : ObjT) (p : Lay) : (ocells o p).length = 39 := by simp [ocells, u8s, o.tree.2]
theorem ocells_tree (o : ObjT) (p : Lay) (j : Nat) (v : Value) (h : (u8s o.tree.1)[j]? = some v) : (ocells o p)[4 + j]? = some v := by
  have h1 : j < (u8s o.tree.1).length := (List.getElem?_eq_some_iff.1 h).1
  unfold ocells
  rw [Nat.add_comm 4 j]
  simp only [List.getElem?_cons_succ]
  rw [List.getElem?_append_left h1, h]
theorem ocells_end (o : ObjT) (p : Lay) : (ocells o p)[36]? = some (.slice p.Ak o.parents.length p.ck) ∧ (ocells o p)[37]? = some (.int .i64 o.time) ∧ (ocells o p)[38]? = some (.string o.note) := by
  have h : (u8s o.tree.1).length = 32 := by simp [u8s, o.tree.2]
  unfold ocells
  refine ⟨?_, ?_, ?_⟩ <;> simp only [List.getElem?_cons_succ] <;> rw [List.getElem?_append_right (by omega), h] <;> rfl
/-- An object's lists, as they lie below block B. -/
structure ObjIn (w : World) (B : Nat) (o : ObjT) (p : Lay) : Prop where
  d : Byt w B p.Ad o.data
  ps : Row encP 33 w B p.Ap o.parts
  xs : Row encI 35 w B p.Ai o.items
  ks : Row encK 32 w B p.Ak o.parents
theorem ObjIn.below {w w' : World} {B : Nat} {o : ObjT} {p : Lay} (h : ObjIn w B o p) (hb : Below B w w') : ObjIn w' B o p :=
  ⟨h.d.below hb, Rd.below h.ps hb, Rd.below h.xs hb, Rd.below h.ks hb⟩
theorem ObjIn.mono {w : World} {B B' : Nat} {o : ObjT} {p : Lay} (h : ObjIn w B o p) (hb : B ≤ B') : ObjIn w B' o p :=
  ⟨h.d.mono hb, Rd.mono h.ps hb, Rd.mono h.xs hb, Rd.mono h.ks hb⟩
/-- No list is too long. -/
structure Fit (o : ObjT) : Prop where
  d : o.data.length ≤ 140737488355328
  ps : o.parts.length * 40 ≤ 140737488355328
  xs : o.items.length * 64 ≤ 140737488355328
  ks : o.parents.length * 32 ≤ 140737488355328
  b : ∀ x ∈ o.data, x < 256
/-- An object's block. -/
abbrev OBlk (w : World) (g : Nat) (o : ObjT) (p : Lay) : Prop := w.heap[g]? = some (.cells (ocells o p).toArray 31 (0, 0))
section
variable {w : World} {g : Nat} {o : ObjT} {p : Lay}
theorem OBlk.cell (h : OBlk w g o p) {j : Nat} {v : Value} (hv : (ocells o p)[j]? = some v) : w.cell? ⟨g, j, none⟩ = some v := by
  rw [cell_of_row _ _ _ _ _ _ h]
  simpa using hv
theorem OBlk.c0 (h : OBlk w g o p) : w.cell? ⟨g, 0, none⟩ = some (.int .u8 (o.kind : Int)) := h.cell rfl
theorem OBlk.c1 (h : OBlk w g o p) : w.cell? ⟨g, 1, none⟩ = some (.slice p.Ad o.data.length p.cd) := h.cell rfl
theorem OBlk.c2 (h : OBlk w g o p) : w.cell? ⟨g, 2, none⟩ = some (.slice p.Ap o.parts.length p.cp) := h.cell rfl
theorem OBlk.c3 (h : OBlk w g o p) : w.cell? ⟨g, 3, none⟩ = some (.slice p.Ai o.items.length p.ci) := h.cell rfl
theorem OBlk.c36 (h : OBlk w g o p) : w.cell? ⟨g, 36, none⟩ = some (.slice p.Ak o.parents.length p.ck) := h.cell (ocells_end o p).1
theorem OBlk.c37 (h : OBlk w g o p) : w.cell? ⟨g, 37, none⟩ = some (.int .i64 o.time) := h.cell (ocells_end o p).2.1
theorem OBlk.c38 (h : OBlk w g o p) : w.cell? ⟨g, 38, none⟩ = some (.string o.note) := h.cell (ocells_end o p).2.2
theorem OBlk.tree (h : OBlk w g o p) : w.rangeAt g 4 (encK o.tree) := fun j v hv => h.cell (ocells_tree o p j v hv)
theorem OBlk.below {w' : World} {B : Nat} (h : OBlk w g o p) (hb : Below B w w') (hg : g < B) : OBlk w' g o p := (hb.block g hg).trans h
end
section
variable {P : Program} {ops : Array Oper} {rest : List Oper} {o : Oper} {a : Act} {w : World} {Q : Exit → Act → World → Prop}
theorem wpList_load_mid_g (hw : Region.wanted o (yielded ops a.tmps) = true) (ty : TypeId) (x : Operand) (ho : o.op = .load ty x)
    (b k : Nat) (hx : a.eval x = .pointer (some ⟨b, k, none⟩)) (cs : List Value) (d : TypeDesc) (hc : w.rangeAt b k cs)
    (hu : P.underlying ty = some d) (hd : d.isRow = true) (hi : (P.info? ty).map (·.size) = some cs.length)
    (h : wpList P ops Q rest (a.put o.dst (.agg cs.toArray)) w) : wpList P ops Q (o :: rest) a w :=
  wpList_step fun K hK => by
    rw [if_pos hw]
    exact wp_load_mid ty x ho b k hx cs d hc hu hd hi (hK _ _ h)
end
/-- Are two objects alike? -/
def sameO (a b : ObjT) : Bool :=
  decide (a.kind = b.kind) && decide (a.data = b.data) && decide (a.parts = b.parts) && decide (a.items = b.items) && decide (a.tree = b.tree) && decide (a.parents = b.parents) && decide (a.time = b.time) && decide (a.note = b.note)
theorem sameO_self (a : ObjT) : sameO a a = true := by simp [sameO]
theorem int_eq {x y : Nat} : ((x : Int) == (y : Int)) = decide (x = y) := by
  by_cases h : x = y
  · subst h; simp
  · simp [h]; omega

/-- The text of some bytes. -/
def strB (l : List Nat) : ByteArray := ⟨(l.map fun x : Nat => x.toUInt8).toArray⟩
theorem u8_inj {x y : Nat} (hx : x < 256) (hy : y < 256) (h : x.toUInt8 = y.toUInt8) : x = y := by
  have := congrArg UInt8.toNat h
  simpa [Nat.mod_eq_of_lt hx, Nat.mod_eq_of_lt hy] using this
theorem map_inj8 : ∀ (a b : List Nat), (∀ x ∈ a, x < 256) → (∀ x ∈ b, x < 256) → a.map (fun x : Nat => x.toUInt8) = b.map (fun x : Nat => x.toUInt8) → a = b
  | [], [], _, _, _ => rfl
  | [], _ :: _, _, _, h => by simp at h
  | _ :: _, [], _, _, h => by simp at h
  | x :: a, y :: b, ha, hb, h => by
    simp only [List.map_cons, List.cons.injEq] at h
    rw [u8_inj (ha x (by simp)) (hb y (by simp)) h.1, map_inj8 a b (fun z hz => ha z (by simp [hz])) (fun z hz => hb z (by simp [hz])) h.2]
theorem strB_eq (a b : List Nat) (ha : ∀ x ∈ a, x < 256) (hb : ∀ x ∈ b, x < 256) : ((strB a).toList == (strB b).toList) = decide (a = b) := by
  rw [bytes_eq]
  have h : strB a = strB b ↔ a = b := ⟨fun h => map_inj8 a b ha hb (by simpa [strB] using h), fun h => by rw [h]⟩
  rw [Bool.eq_iff_iff, decide_eq_true_iff, decide_eq_true_iff, h]
theorem conv_bytes (w : World) (l : List Nat) (A : Option Addr) (c B : Nat) (h : Byt w B A l) (hb : ∀ x ∈ l, x < 256) : (convert 24 9 (.slice A l.length c)).run Tryd.prog w = .ok (.string (strB l)) w := by
  have key : ∀ (b off : Nat), (∀ j, j < l.length → w.cell? ⟨b, off + j, none⟩ = some (.int .u8 ((l[j]?.getD 0 : Nat) : Int))) → (convert 24 9 (.slice (some ⟨b, off, none⟩) l.length c)).run Tryd.prog w = .ok (.string (strB l)) w := fun b off hc => by
    have := run_convert_bytes_back (P := Tryd.prog) w 24 9 5 ⟨b, off, none⟩ c (l.map fun x : Nat => x.toUInt8) Tryd.underlying24 Tryd.underlying5 Tryd.underlying9 (fun j hj => by
      have hj2 : j < l.length := by simpa using hj
      rw [Addr.add_lit, hc j hj2, List.getElem?_eq_getElem hj2, Option.getD_some]
      have := hb _ (List.getElem_mem hj2)
      simp [Nat.mod_eq_of_lt this])
    simpa [strB] using this
  rcases Nat.eq_zero_or_pos l.length with h0 | h0
  · obtain rfl : l = [] := List.length_eq_zero_iff.1 h0
    cases A with
    | none =>
      have := run_convert_bytes_nil (P := Tryd.prog) w 24 5 Tryd.underlying24 Tryd.underlying5 0 c 9 Tryd.underlying9
      exact this
    | some a =>
      have := run_convert_bytes_back (P := Tryd.prog) w 24 9 5 a c [] Tryd.underlying24 Tryd.underlying5 Tryd.underlying9 (fun j hj => by simp at hj)
      exact this
  · obtain ⟨b, off, rfl, _, hc⟩ := h h0
    exact key b off hc
end Go.Proofs.YtkjndgapejbgcaaDoor
