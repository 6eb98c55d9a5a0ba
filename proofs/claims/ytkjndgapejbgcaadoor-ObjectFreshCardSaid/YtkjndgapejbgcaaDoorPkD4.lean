/- An object's value and its block. spare: a copy of some bytes with marks behind it. Bytes appended. No program is named here. An encoder in memory: what its methods lay. An encoder's further methods: Var, Key, Len, Put of a byte. An encoder's further methods: Key, Len, the widths. -/
import Derived.Test.YtkjndgapejbgcaaDoorPkD3
import Derived.Laws.IdiomStrings
import Derived.Laws.BytesArg
import Derived.WalkLawsBesides
import Derived.Test.YtkjndgapejbgcaaDoorPkD1
import Derived.StillTailTactics
import Derived.Shelf.Bytes.SlClone
import Derived.Laws.Pointers
import Derived.Laws.Shifts

namespace Go.Proofs.YtkjndgapejbgcaaDoor
open Go.RowKit
set_option linter.unusedSimpArgs false

structure ObjT where
  kind : Nat
  data : List Nat
  parts : List PartT
  items : List ItemT
  tree : Key32
  parents : List Key32
  time : Int
  note : ByteArray
/-- Where an object's lists lie. -/
structure Lay where
  Ad : Option Addr
  Ap : Option Addr
  Ai : Option Addr
  Ak : Option Addr
  cd : Nat
  cp : Nat
  ci : Nat
  ck : Nat
def ocells (o : ObjT) (p : Lay) : List Value :=
  .int .u8 (o.kind : Int) :: .slice p.Ad o.data.length p.cd :: .slice p.Ap o.parts.length p.cp :: .slice p.Ai o.items.length p.ci :: (u8s o.tree.1 ++ [.slice p.Ak o.parents.length p.ck, .int .i64 o.time, .string o.note])
theorem ocells_length (o : ObjT) (p : Lay) : (ocells o p).length = 39 := by simp [ocells, u8s, o.tree.2]
theorem ocells_tree (o : ObjT) (p : Lay) (j : Nat) (v : Value) (h : (u8s o.tree.1)[j]? = some v) : (ocells o p)[4 + j]? = some v := by
  have h1 : j < (u8s o.tree.1).length := (List.getElem?_eq_some_iff.1 h).1
  unfold ocells
  rw [Nat.add_comm 4 j]
  simp only [List.getElem?_cons_succ]
  rw [List.getElem?_append_left h1, h]
theorem ocells_end (o : ObjT) (p : Lay) : (ocells o p)[36]? = some (.slice p.Ak o.parents.length p.ck) ∧ (ocells o p)[37]? = some (.int .i64 o.time) ∧ (ocells o p)[38]? = some (.string o.note) := by
  have h : (u8s o.tree.1).length = 32 := by simp [u8s, o.tree.2]
  unfold ocells
  refine ⟨?_, ?_, ?_⟩ <;> simp only [List.getElem?_cons_succ] <;> rw [List.getElem?_append_right (by omega), h] <;> rfl
/-- An object's lists, as they lie below block B. -/
structure ObjIn (w : World) (B : Nat) (o : ObjT) (p : Lay) : Prop where
  d : Byt w B p.Ad o.data
  ps : Row encP 33 w B p.Ap o.parts
  xs : Row encI 35 w B p.Ai o.items
  ks : Row encK 32 w B p.Ak o.parents
theorem ObjIn.below {w w' : World} {B : Nat} {o : ObjT} {p : Lay} (h : ObjIn w B o p) (hb : Below B w w') : ObjIn w' B o p :=
  ⟨h.d.below hb, Rd.below h.ps hb, Rd.below h.xs hb, Rd.below h.ks hb⟩
theorem ObjIn.mono {w : World} {B B' : Nat} {o : ObjT} {p : Lay} (h : ObjIn w B o p) (hb : B ≤ B') : ObjIn w B' o p :=
  ⟨h.d.mono hb, Rd.mono h.ps hb, Rd.mono h.xs hb, Rd.mono h.ks hb⟩
/-- No list is too long. -/
structure Fit (o : ObjT) : Prop where
  d : o.data.length ≤ 140737488355328
  ps : o.parts.length * 40 ≤ 140737488355328
  xs : o.items.length * 64 ≤ 140737488355328
  ks : o.parents.length * 32 ≤ 140737488355328
  b : ∀ x ∈ o.data, x < 256
/-- An object's block. -/
abbrev OBlk (w : World) (g : Nat) (o : ObjT) (p : Lay) : Prop := w.heap[g]? = some (.cells (ocells o p).toArray 31 (0, 0))
section
variable {w : World} {g : Nat} {o : ObjT} {p : Lay}
theorem OBlk.cell (h : OBlk w g o p) {j : Nat} {v : Value} (hv : (ocells o p)[j]? = some v) : w.cell? ⟨g, j, none⟩ = some v := by
  rw [cell_of_row _ _ _ _ _ _ h]
  simpa using hv
theorem OBlk.c0 (h : OBlk w g o p) : w.cell? ⟨g, 0, none⟩ = some (.int .u8 (o.kind : Int)) := h.cell rfl
theorem OBlk.c1 (h : OBlk w g o p) : w.cell? ⟨g, 1, none⟩ = some (.slice p.Ad o.data.length p.cd) := h.cell rfl
theorem OBlk.c2 (h : OBlk w g o p) : w.cell? ⟨g, 2, none⟩ = some (.slice p.Ap o.parts.length p.cp) := h.cell rfl
theorem OBlk.c3 (h : OBlk w g o p) : w.cell? ⟨g, 3, none⟩ = some (.slice p.Ai o.items.length p.ci) := h.cell rfl
theorem OBlk.c36 (h : OBlk w g o p) : w.cell? ⟨g, 36, none⟩ = some (.slice p.Ak o.parents.length p.ck) := h.cell (ocells_end o p).1
theorem OBlk.c37 (h : OBlk w g o p) : w.cell? ⟨g, 37, none⟩ = some (.int .i64 o.time) := h.cell (ocells_end o p).2.1
theorem OBlk.c38 (h : OBlk w g o p) : w.cell? ⟨g, 38, none⟩ = some (.string o.note) := h.cell (ocells_end o p).2.2
theorem OBlk.tree (h : OBlk w g o p) : w.rangeAt g 4 (encK o.tree) := fun j v hv => h.cell (ocells_tree o p j v hv)
theorem OBlk.below {w' : World} {B : Nat} (h : OBlk w g o p) (hb : Below B w w') (hg : g < B) : OBlk w' g o p := (hb.block g hg).trans h
end
section
variable {P : Program} {ops : Array Oper} {rest : List Oper} {o : Oper} {a : Act} {w : World} {Q : Exit → Act → World → Prop}
theorem wpList_load_mid_g (hw : Region.wanted o (yielded ops a.tmps) = true) (ty : TypeId) (x : Operand) (ho : o.op = .load ty x)
    (b k : Nat) (hx : a.eval x = .pointer (some ⟨b, k, none⟩)) (cs : List Value) (d : TypeDesc) (hc : w.rangeAt b k cs)
    (hu : P.underlying ty = some d) (hd : d.isRow = true) (hi : (P.info? ty).map (·.size) = some cs.length)
    (h : wpList P ops Q rest (a.put o.dst (.agg cs.toArray)) w) : wpList P ops Q (o :: rest) a w :=
  wpList_step fun K hK => by
    rw [if_pos hw]
    exact wp_load_mid ty x ho b k hx cs d hc hu hd hi (hK _ _ h)
end
/-- Are two objects alike? -/
def sameO (a b : ObjT) : Bool :=
  decide (a.kind = b.kind) && decide (a.data = b.data) && decide (a.parts = b.parts) && decide (a.items = b.items) && decide (a.tree = b.tree) && decide (a.parents = b.parents) && decide (a.time = b.time) && decide (a.note = b.note)
theorem sameO_self (a : ObjT) : sameO a a = true := by simp [sameO]
theorem int_eq {x y : Nat} : ((x : Int) == (y : Int)) = decide (x = y) := by
  by_cases h : x = y
  · subst h; simp
  · simp [h]; omega

/-- The text of some bytes. -/
def strB (l : List Nat) : ByteArray := ⟨(l.map fun x : Nat => x.toUInt8).toArray⟩
theorem u8_inj {x y : Nat} (hx : x < 256) (hy : y < 256) (h : x.toUInt8 = y.toUInt8) : x = y := by
  have := congrArg UInt8.toNat h
  simpa [Nat.mod_eq_of_lt hx, Nat.mod_eq_of_lt hy] using this
theorem map_inj8 : ∀ (a b : List Nat), (∀ x ∈ a, x < 256) → (∀ x ∈ b, x < 256) → a.map (fun x : Nat => x.toUInt8) = b.map (fun x : Nat => x.toUInt8) → a = b
  | [], [], _, _, _ => rfl
  | [], _ :: _, _, _, h => by simp at h
  | _ :: _, [], _, _, h => by simp at h
  | x :: a, y :: b, ha, hb, h => by
    simp only [List.map_cons, List.cons.injEq] at h
    rw [u8_inj (ha x (by simp)) (hb y (by simp)) h.1, map_inj8 a b (fun z hz => ha z (by simp [hz])) (fun z hz => hb z (by simp [hz])) h.2]
theorem strB_eq (a b : List Nat) (ha : ∀ x ∈ a, x < 256) (hb : ∀ x ∈ b, x < 256) : ((strB a).toList == (strB b).toList) = decide (a = b) := by
  rw [bytes_eq]
  have h : strB a = strB b ↔ a = b := ⟨fun h => map_inj8 a b ha hb (by simpa [strB] using h), fun h => by rw [h]⟩
  rw [Bool.eq_iff_iff, decide_eq_true_iff, decide_eq_true_iff, h]
theorem conv_bytes (w : World) (l : List Nat) (A : Option Addr) (c B : Nat) (h : Byt w B A l) (hb : ∀ x ∈ l, x < 256) : (convert 24 9 (.slice A l.length c)).run Tryd.prog w = .ok (.string (strB l)) w := by
  have key : ∀ (b off : Nat), (∀ j, j < l.length → w.cell? ⟨b, off + j, none⟩ = some (.int .u8 ((l[j]?.getD 0 : Nat) : Int))) → (convert 24 9 (.slice (some ⟨b, off, none⟩) l.length c)).run Tryd.prog w = .ok (.string (strB l)) w := fun b off hc => by
    have := run_convert_bytes_back (P := Tryd.prog) w 24 9 5 ⟨b, off, none⟩ c (l.map fun x : Nat => x.toUInt8) Tryd.underlying24 Tryd.underlying5 Tryd.underlying9 (fun j hj => by
      have hj2 : j < l.length := by simpa using hj
      rw [Addr.add_lit, hc j hj2, List.getElem?_eq_getElem hj2, Option.getD_some]
      have := hb _ (List.getElem_mem hj2)
      simp [Nat.mod_eq_of_lt this])
    simpa [strB] using this
  rcases Nat.eq_zero_or_pos l.length with h0 | h0
  · obtain rfl : l = [] := List.length_eq_zero_iff.1 h0
    cases A with
    | none =>
      have := run_convert_bytes_nil (P := Tryd.prog) w 24 5 Tryd.underlying24 Tryd.underlying5 0 c 9 Tryd.underlying9
      exact this
    | some a =>
      have := run_convert_bytes_back (P := Tryd.prog) w 24 9 5 a c [] Tryd.underlying24 Tryd.underlying5 Tryd.underlying9 (fun j hj => by simp at hj)
      exact this
  · obtain ⟨b, off, rfl, _, hc⟩ := h h0
    exact key b off hc
end Go.Proofs.YtkjndgapejbgcaaDoor

namespace Go.Proofs.YtkjndgapejbgcaaDoor
open Go.RowKit
set_option linter.unusedSimpArgs false

theorem elB : ElemOk Tryd.prog 24 5 (.int .u8 0) 1 1 := ⟨Tryd.underlying24, by kernel_rfl, rfl, by decide⟩
theorem elP : ElemOk Tryd.prog 25 47 (.agg (encP (⟨zeros 32, by simp [zeros]⟩, 0)).toArray) 33 40 := ⟨Tryd.underlying25, by kernel_rfl, rfl, by decide⟩
theorem elI : ElemOk Tryd.prog 26 50 (.agg (encI (⟨#[]⟩, 0, 0, ⟨zeros 32, by simp [zeros]⟩)).toArray) 35 64 := ⟨Tryd.underlying26, by kernel_rfl, rfl, by decide⟩
theorem elK : ElemOk Tryd.prog 29 28 (.agg (encK ⟨zeros 32, by simp [zeros]⟩).toArray) 32 32 := ⟨Tryd.underlying29, by kernel_rfl, rfl, by decide⟩

/-- A list and i marks. -/
def marked (b : List Nat) (i : Nat) : List Nat := b ++ List.replicate i 165
theorem marked_length (b : List Nat) (i : Nat) : (marked b i).length = b.length + i := by simp [marked]
theorem u8s_set (l : List Nat) (k x : Nat) : (u8s l).set k (.int .u8 (x : Int)) = u8s (l.set k x) := by simp [u8s, List.map_set]
/-- The first k of some bytes, and noughts. -/
def filled (b : List Nat) (n k : Nat) : List Nat := b.take k ++ List.replicate (n - k) 0
theorem set_mid {p : List Nat} {k m x : Nat} (h : p.length = k) (hm : 0 < m) : (p ++ List.replicate m 0).set k x = (p ++ [x]) ++ List.replicate (m - 1) 0 := by
  obtain ⟨m, rfl⟩ : ∃ j, m = j + 1 := ⟨m - 1, by omega⟩
  subst h
  rw [List.set_append_right _ _ (Nat.le_refl _), Nat.sub_self, List.replicate_succ, List.set_cons_zero]
  simp
theorem filled_set {b : List Nat} {n k x : Nat} (hk : k < b.length) (hn : k < n) (hx : b[k]?.getD 0 = x) : (u8s (filled b n k)).set k (.int .u8 (x : Int)) = u8s (filled b n (k + 1)) := by
  rw [u8s_set]
  unfold filled
  rw [set_mid (by simp; omega) (by omega)]
  rw [List.take_succ_eq_append_getElem hk]
  rw [List.getElem?_eq_getElem hk, Option.getD_some] at hx
  rw [hx, show n - k - 1 = n - (k + 1) by omega]
theorem filled_zero (b : List Nat) (n : Nat) : u8s (filled b n 0) = List.replicate n (.int .u8 0) := by simp [filled, u8s]
def filled2 (b : List Nat) (n k : Nat) : List Nat := marked b (k - b.length) ++ List.replicate (n - k) 0
theorem filled_full (b : List Nat) (n : Nat) : filled b n b.length = filled2 b n b.length := by simp [filled, filled2, marked]
theorem filled2_set {b : List Nat} {n k : Nat} (hk : b.length ≤ k) (hn : k < n) : (u8s (filled2 b n k)).set k (.int .u8 165) = u8s (filled2 b n (k + 1)) := by
  rw [show (Value.int .u8 165) = Value.int .u8 ((165 : Nat) : Int) from rfl, u8s_set]
  unfold filled2
  rw [set_mid (by rw [marked_length]; omega) (by omega), show n - k - 1 = n - (k + 1) by omega, show k + 1 - b.length = (k - b.length) + 1 by omega]
  congr 2
  simp [marked, List.replicate_succ']
theorem filled2_full (b : List Nat) (n : Nat) : filled2 b (b.length + n) (b.length + n) = marked b n := by simp [filled2]
theorem filled_length (b : List Nat) (n k : Nat) (h : k ≤ b.length) (hn : k ≤ n) : (filled b n k).length = n := by simp [filled]; omega
theorem filled2_length (b : List Nat) (n k : Nat) (h : b.length ≤ k) (hn : k ≤ n) : (filled2 b n k).length = n := by simp [filled2, marked]; omega

set_option maxRecDepth 100000 in
set_option maxHeartbeats 1000000 in
theorem spare_any (w : World) (b : List Nat) (A : Option Addr) (c : Nat) (hA : Byt w w.heap.size A b) (hL : b.length ≤ 140737488355328) :
    Calls Tryd.prog 18 #[.slice A b.length c] w fun e w' => (∃ ga cc, e = .returned (.slice (some ⟨ga, 0, none⟩) b.length cc) ∧ Own w' w.heap.size 5 1 (some ⟨ga, 0, none⟩) (b.length + 70) cc (u8s (marked b 70))) ∧ Below w.heap.size w w' := by
  obtain ⟨L, hLL⟩ : ∃ L, Hid (∀ _ : Unit, b.length = L) := ⟨_, Lib.hid fun _ => rfl⟩
  rw [hLL.out ()] at hL ⊢
  have hA' := Lib.hid hA
  clear hA
  go_enter Tryd.func18, Tryd.ntmps18
  go_wp2_with (at_make; refine wpList_mk elB w rfl _ _ rfl rfl rfl (L + 70) (L + 70) (by omega) (by omega) (by omega) (by omega) (by unfold maxLen; omega) (Nat.le_refl _) ?_; intro w1 hown1 _ hb1 _; rw [made_one _ rfl, ← filled_zero b] at hown1)
  generalize hGe : w.heap.size = G at hown1 hb1 hA' ⊢
  have hGe' := Lib.hid (fun _ : Unit => hGe)
  clear hGe
  go_loopw [4] (fun i wr => ∃ k : Nat, k ≤ L ∧ i = .int .i64 k ∧ Hid (Own wr G 5 1 (some ⟨G, 0, none⟩) (L + 70) (L + 70) (u8s (filled b (L + 70) k))) ∧ Hid (Below G w wr)) (fun i _ => L - (intOf i).toNat)
  case atStart => exact ⟨0, by omega, rfl, Lib.hid hown1, Lib.hid hb1⟩
  case round =>
    clear hown1 hb1
    obtain ⟨k, hk, rfl, hown, hbel⟩ := hrel
    by_cases hlt : k < L
    · obtain ⟨b0, off, rfl, _, hc⟩ := (hA'.out.below hbel.out).get (show k < b.length by rw [hLL.out ()]; exact hlt)
      obtain ⟨x, hx⟩ : ∃ x, b[k]?.getD 0 = x := ⟨_, rfl⟩
      simp only [hx] at hc
      have hkb : k < b.length := by rw [hLL.out ()]; exact hlt
      have hst := hown.out.set k (.int .u8 (x : Int))
      rw [filled_set hkb (by omega) hx] at hst
      have hst' := Lib.hid hst
      have hcl := hown.out.cell k (by omega)
      rw [u8s_get _ _ (by rw [filled_length _ _ _ (by omega) (by omega)]; omega)] at hcl
      have hfz := hown.out.frozen k
      have hbel2 := Lib.hid (hbel.out.setCell (p := ⟨G, k, none⟩) (Nat.le_refl _) (.int .u8 (x : Int)))
      clear hst hx hkb hown hbel
      go_wp2_with fail
      go_roundw
      case rel => exact ⟨k + 1, by omega, by go_num, hst', hbel2⟩
      case measure => simp [intOf]; omega
    · obtain rfl : k = L := by omega
      rw [← hLL.out (), filled_full, hLL.out ()] at hown
      go_wp2_with fail
      go_loopw [5] (fun i wr => ∃ j : Nat, k ≤ j ∧ j ≤ k + 70 ∧ i = .int .i64 j ∧ Hid (Own wr G 5 1 (some ⟨G, 0, none⟩) (k + 70) (k + 70) (u8s (filled2 b (k + 70) j))) ∧ Hid (Below G w wr)) (fun i _ => k + 70 - (intOf i).toNat)
      case atStart => exact ⟨k, by omega, by omega, rfl, hown, hbel⟩
      case round =>
        clear hown hbel
        obtain ⟨j, hj, hj2, rfl, hown, hbel⟩ := hrel
        by_cases hjl : j < k + 70
        · have hst := hown.out.set j (.int .u8 165)
          rw [filled2_set (by rw [hLL.out ()]; exact hj) hjl] at hst
          have hst' := Lib.hid hst
          have hcl := hown.out.cell j (by omega)
          rw [u8s_get _ _ (by rw [filled2_length _ _ _ (by rw [hLL.out ()]; exact hj) hj2]; omega)] at hcl
          have hfz := hown.out.frozen j
          have hbel2 := Lib.hid (hbel.out.setCell (p := ⟨G, j, none⟩) (Nat.le_refl _) (.int .u8 165))
          clear hst hown hbel
          go_wp2_with fail
          go_roundw
          case rel => exact ⟨j + 1, by omega, by omega, by go_num, hst', hbel2⟩
          case measure => simp [intOf]; omega
        · obtain rfl : k + 70 = j := by omega
          have hown2 := hown.out
          rw [show filled2 b (k + 70) (k + 70) = marked b 70 by rw [← hLL.out ()]; exact filled2_full b 70] at hown2
          have hown3 := Lib.hid hown2
          have hsl : ∀ W : World, (Instr.slice 24 (.slice (some ⟨G, 0, none⟩) (k + 70) (k + 70)) none (some (.int .i64 (k : Int))) none).run Tryd.prog W = .ok (.slice (some ⟨G, 0, none⟩) k (k + 70)) W := fun W => by
            have hs : (sizeOf (Tryd.prog.elem 24)).run Tryd.prog W = .ok 1 W := by kernel_rfl
            rw [run_slice_h W 24 _ (k + 70) (k + 70) (by rw [Tryd.underlying24]; kernel_rfl) .i64 (k : Int) (by omega) (by omega), hs]
            simp only [Result.andThen, sliced, Int.toNat_natCast, Nat.zero_mul, Nat.sub_zero]
            rw [if_neg (by omega)]
            simp [Addr.add_lit]
          clear hown2 hown
          go_wp2_with fail
          go_ret
          rw [hGe'.out ()]
          exact ⟨⟨G, k + 70, rfl, hown3.out⟩, hbel.out⟩
end Go.Proofs.YtkjndgapejbgcaaDoor

namespace Go.Proofs.YtkjndgapejbgcaaDoor
open Go.RowKit

section
variable {P : Program} {ops : Array Oper} {rest : List Oper} {o : Oper} {a : Act} {Q : Exit → Act → World → Prop}
/-- append(s, x...) of bytes. -/
theorem wpList_appB {t e : TypeId} {z : Value} (E : ElemOk P t e z 1 1) (w : World) (hgd : o.guard = none) (s x : Operand)
    (ho : o.op = .call { callee := .builtin .append, args := #[s, x], argTypes := #[t, t] })
    {B : Nat} {A : Option Addr} {n c : Nat} {l : List Nat} (hs : a.eval s = .slice A n c) (hown : Own w B e 1 A n c (u8s l))
    {B2 : Nat} {A2 : Option Addr} {k c2 : Nat} {m : List Nat} (hx : a.eval x = .slice A2 k c2) (hm : m.length = k) (hr : Byt w B2 A2 m)
    (hn : n + k ≤ 70368744177664) (hB : B ≤ w.heap.size) (N : Nat) (hN : n + k = N)
    (h : ∀ A' c' w', Own w' B e 1 A' N c' (u8s (l ++ m)) → AppAt w w' A A' → Below B w w' →
      wpList P ops Q rest (a.put o.dst (.slice A' N c')) w') : wpList P ops Q (o :: rest) a w :=
  wpList_app E w hgd s x ho hs hown hx (m := k) (by rw [Nat.mul_one, ← hm]; exact hr) (fun _ _ => rfl) (by unfold maxLen; omega) (by omega) hB N hN _ (u8s_app hm.symm) h
end

theorem ownB_nil (w : World) (B : Nat) (e : TypeId) : Own w B e 1 none 0 0 (u8s []) := Own.nil w B e 1

end Go.Proofs.YtkjndgapejbgcaaDoor

namespace Go.Proofs.YtkjndgapejbgcaaDoor
open Go.RowKit
set_option linter.unusedSimpArgs false

/-- An encoder that owns what it has laid. -/
structure EncAt (w : World) (g : Nat) (A : Option Addr) (c : Nat) (l : List Nat) : Prop where
  blk : w.heap[g]? = some (.cells #[.slice A l.length c, .pointer (some ⟨g, 0, none⟩)] 59 (0, 0))
  own : Own w (g + 1) 5 1 A l.length c (u8s l)
/-- Of what was there only the encoder's block and its row may have changed. -/
structure EncR (g : Nat) (w : World) (A : Option Addr) (w' : World) (A' : Option Addr) : Prop where
  os : w'.os = w.os
  tape : w'.tape = w.tape
  output : w'.output = w.output
  size : w.heap.size ≤ w'.heap.size
  block : ∀ k, k < w.heap.size → k ≠ g → blockOf A ≠ some k → w'.heap[k]? = w.heap[k]?
  link : blockOf A' = blockOf A ∨ ∀ k, blockOf A' = some k → w.heap.size ≤ k
section
variable {g : Nat} {w w' w'' : World} {A A' A'' : Option Addr} {c c' : Nat} {l b : List Nat}
theorem EncR.refl (g : Nat) (w : World) (A : Option Addr) : EncR g w A w A := ⟨rfl, rfl, rfl, Nat.le_refl _, fun _ _ _ _ => rfl, .inl rfl⟩
theorem EncR.trans (h : EncR g w A w' A') (k : EncR g w' A' w'' A'') : EncR g w A w'' A'' := by
  refine ⟨k.os.trans h.os, k.tape.trans h.tape, k.output.trans h.output, Nat.le_trans h.size k.size, fun j hj hg hA => ?_, ?_⟩
  · refine (k.block j (Nat.lt_of_lt_of_le hj h.size) hg fun e => ?_).trans (h.block j hj hg hA)
    rcases h.link with h1 | h1
    · exact hA (h1 ▸ e)
    · have := h1 j e; omega
  · rcases k.link with k1 | k1
    · rcases h.link with h1 | h1
      · exact .inl (k1.trans h1)
      · exact .inr fun j hj => h1 j (k1 ▸ hj)
    · exact .inr fun j hj => Nat.le_trans h.size (k1 j hj)
theorem EncR.below {B : Nat} (h : EncR g w A w' A') (hB : B ≤ g) (hA : ∀ k, blockOf A = some k → B ≤ k) (hs : B ≤ w.heap.size) : Below B w w' :=
  ⟨h.os, h.tape, h.output, h.size, fun k hk => h.block k (by omega) (by omega) (fun e => by have := hA k e; omega)⟩
theorem EncAt.lt (h : EncAt w g A c l) : g < w.heap.size := lt_of_block h.blk
theorem EncAt.off (h : EncAt w g A c l) : ∀ k, blockOf A = some k → g + 1 ≤ k := fun k hk => (h.own.lt k hk).1
theorem EncAt.c0 (h : EncAt w g A c l) : w.cell? ⟨g, 0, none⟩ = some (.slice A l.length c) := cell_of_row _ _ _ _ _ _ h.blk
theorem EncAt.c1 (h : EncAt w g A c l) : w.cell? ⟨g, 1, none⟩ = some (.pointer (some ⟨g, 0, none⟩)) := cell_of_row _ _ _ _ _ _ h.blk
theorem EncAt.fz (h : EncAt w g A c l) (j : Nat) : w.frozen? ⟨g, j, none⟩ = false := by simp [World.frozen?, h.blk]
theorem EncAt.keep (h : EncAt w g A c l) (hb : Below w.heap.size w w') : EncAt w' g A c l :=
  ⟨(hb.block g h.lt).trans h.blk, h.own.below hb fun k hk => (h.own.lt k hk).2⟩
/-- An append, and the store of what came of it. -/
theorem EncAt.put (h : EncAt w g A c l) (ha : AppAt w w' A A') {n : Nat} (hn : n = (l ++ b).length) (ho : Own w' (g + 1) 5 1 A' n c' (u8s (l ++ b))) :
    EncAt (w'.setCell ⟨g, 0, none⟩ (.slice A' n c')) g A' c' (l ++ b) ∧ EncR g w A (w'.setCell ⟨g, 0, none⟩ (.slice A' n c')) A' := by
  subst hn
  have hg : w'.heap[g]? = _ := (ha.grown.block g h.lt (fun e => by have := h.off g e.symm; omega)).trans h.blk
  have hs := heap_setCell_same w' g 0 _ _ (.slice A' (l ++ b).length c') hg
  refine ⟨⟨by rw [hs]; simp, ho.setFar (by simp) _⟩, ⟨ha.grown.os, ha.grown.tape, ha.grown.output, by have := ha.grown.size; simpa using this, fun k hk hkg hA => ?_, ?_⟩⟩
  · rw [heap_setCell_other w' _ k _ hkg]
    exact ha.grown.block k hk (fun e => hA e.symm)
  · rcases ha with ⟨h1, _⟩ | ⟨k, h1, h2, _⟩
    · exact .inl h1
    · exact .inr fun j hj => by rw [h1] at hj; injection hj with e; omega
theorem EncAt.mid (h : EncAt w g A c l) (ha : AppAt w w' A A') : w'.cell? ⟨g, 0, none⟩ = some (.slice A l.length c) ∧ w'.frozen? ⟨g, 0, none⟩ = false := by
  have hb : w'.heap[g]? = w.heap[g]? := ha.grown.block g h.lt (fun e => by have := h.off g e.symm; omega)
  exact ⟨(World.cell?_of_block hb).trans h.c0, (World.frozen?_of_block hb).trans (h.fz 0)⟩
end

theorem ptr_eqIn (d : Nat) (a : Addr) (w : World) : (Op.equalIn (d + 1) 57 (.pointer (some a)) (.pointer (some a))).run Tryd.prog w = .ok true w := by
  have hs : (sizeOf 59).run Tryd.prog w = .ok 2 w := Tryd.sizeOf59 w
  simp [Op.equalIn, run_underlying Tryd.underlying57, hs, sameAddr]
theorem ptr_neq (a : Addr) (w : World) : (binOp .neq 57 (.pointer (some a)) (.pointer (some a))).run Tryd.prog w = .ok (.bool false) w := by
  have he : (Op.equal 57 (.pointer (some a)) (.pointer (some a))).run Tryd.prog w = .ok true w := ptr_eqIn 9999 a w
  simp only [binOp]
  simp [he]
set_option maxRecDepth 20000 in
theorem ours_any {w : World} {g c : Nat} {A : Option Addr} {l : List Nat} (h : EncAt w g A c l) : Calls Tryd.prog 67 #[.pointer (some ⟨g, 0, none⟩)] w fun e w' => (∃ v, e = .returned v) ∧ w = w' := by
  have c1 := h.c1
  have hq := ptr_neq ⟨g, 0, none⟩
  clear h
  go_enter Tryd.func67, Tryd.ntmps67
  go_wp2_with fail
  go_end0
  exact ⟨⟨_, rfl⟩, rfl⟩

set_option maxRecDepth 20000 in
set_option maxHeartbeats 1000000 in
theorem raw_any {w : World} {g c : Nat} {A : Option Addr} {l : List Nat} (h : EncAt w g A c l) (b : List Nat) (A2 : Option Addr) (c2 n B2 : Nat) (hn : b.length = n) (hb : Byt w B2 A2 b) (hs : l.length + n ≤ 70368744177664) :
    Calls Tryd.prog 34 #[.pointer (some ⟨g, 0, none⟩), .slice A2 n c2] w fun e w' => (∃ v, e = .returned v) ∧ ∃ A' c', EncAt w' g A' c' (l ++ b) ∧ EncR g w A w' A' := by
  obtain ⟨nl, hnl⟩ : ∃ n, Hid (∀ _ : Unit, l.length = n) := ⟨_, Lib.hid fun _ => rfl⟩
  have c0 := h.c0
  have fz := h.fz 0
  rw [hnl.out ()] at c0 hs
  have h' := Lib.hid h
  have hb' := Lib.hid hb
  have hn' := Lib.hid hn
  clear h hb hn
  go_enter Tryd.func34, Tryd.ntmps34
  go_wp2_with fail
  refine (ours_any h'.out).mono ?_
  rintro e w' ⟨⟨v, rfl⟩, rfl⟩
  go_wp2_with (first | (at_builtin; refine wpList_appB elB _ rfl (.tmp 12) (.tmp 13) rfl rfl (by have := h'.out.own; rw [hnl.out ()] at this; exact this) rfl hn'.out hb'.out hs (Nat.succ_le_of_lt h'.out.lt) (nl + n) rfl ?_; intro A' c' w1 o1 at1 _; have hp := Lib.hid (h'.out.put at1 (by rw [List.length_append, hnl.out (), hn'.out]) o1); have hm := h'.out.mid at1; have m0 := hm.1; have m1 := hm.2; rw [hnl.out ()] at m0; clear hm o1 at1))
  go_end0
  exact ⟨⟨_, rfl⟩, A', c', hp.out.1, hp.out.2⟩
end Go.Proofs.YtkjndgapejbgcaaDoor

namespace Go.Proofs.YtkjndgapejbgcaaDoor
open Go.RowKit
set_option linter.unusedSimpArgs false

set_option maxRecDepth 100000 in
theorem or128 : ∀ y : Nat, y < 256 → bits .or .u8 (y : Int) 128 = ((y % 128 + 128 : Nat) : Int) := by decide
/-- A number's bytes, at most f of them. -/
def varF : Nat → Nat → List Nat
  | 0, _ => []
  | f + 1, v => if v < 128 then [v] else (v % 128 + 128) :: varF f (v / 128)
def varL (v : Nat) : List Nat := varF 10 v
theorem varF_length : ∀ f v, (varF f v).length ≤ f
  | 0, _ => Nat.le_refl _
  | f + 1, v => by
    unfold varF
    split
    · simp
    · have := varF_length f (v / 128)
      simp only [List.length_cons]
      omega
theorem EncAt.one {w w' : World} {g c c' n : Nat} {A A' : Option Addr} {l : List Nat} {y : Nat} (h : EncAt w g A c l) (ha : AppAt w w' A A') (hn : n = l.length + 1) (ho : Own w' (g + 1) 5 1 A' n c' (u8s l ++ #[Value.int .u8 (y : Int)].toList)) :
    EncAt (w'.setCell ⟨g, 0, none⟩ (.slice A' n c')) g A' c' (l ++ [y]) ∧ EncR g w A (w'.setCell ⟨g, 0, none⟩ (.slice A' n c')) A' :=
  h.put ha (by rw [List.length_append]; exact hn) (by rw [u8s_append]; exact ho)

set_option maxRecDepth 20000 in
set_option maxHeartbeats 1000000 in
theorem var_any {w : World} {g c : Nat} {A : Option Addr} {l : List Nat} (h : EncAt w g A c l) (v : Nat) (hv : v < 18446744073709551616) (hs : l.length ≤ 70368744177000) :
    Calls Tryd.prog 35 #[.pointer (some ⟨g, 0, none⟩), .int .u64 (v : Int)] w fun e w' => (∃ v, e = .returned v) ∧ ∃ A' c', EncAt w' g A' c' (l ++ varL v) ∧ EncR g w A w' A' := by
  have h' := Lib.hid h
  obtain ⟨V, hV⟩ : ∃ V, Hid (∀ _ : Unit, varL v = V) := ⟨_, Lib.hid fun _ => rfl⟩
  rw [hV.out ()]
  have hst : Hid ([] ++ varF 10 v = V ∧ v < 128 ^ 10) := Lib.hid ⟨hV.out (), by omega⟩
  clear h
  go_enter Tryd.func35, Tryd.ntmps35
  go_wp2_with fail
  refine (ours_any h'.out).mono ?_
  rintro e w' ⟨⟨v0, rfl⟩, rfl⟩
  go_wp2_with fail
  go_loopw [1] (fun vv wr => ∃ (f u : Nat) (acc : List Nat) (A' : Option Addr) (c' : Nat), vv = .int .u64 (u : Int) ∧ f ≤ 9 ∧ acc.length + f ≤ 9 ∧ Hid (acc ++ varF (f + 1) u = V ∧ u < 128 ^ (f + 1)) ∧ Hid (EncAt wr g A' c' (l ++ acc)) ∧ Hid (EncR g w A wr A')) (fun vv _ => (intOf vv).toNat)
  case atStart => exact ⟨9, v, [], A, c, rfl, by omega, by simp, hst, Lib.hid (by rw [List.append_nil]; exact h'.out), Lib.hid (EncR.refl g w A)⟩
  case round =>
    clear hst
    obtain ⟨f, u, acc, A1, c1, rfl, hf, hal, hu, he, hr⟩ := hrel
    obtain ⟨n, hn⟩ : ∃ n, Hid (∀ _ : Unit, (l ++ acc).length = n) := ⟨_, Lib.hid fun _ => rfl⟩
    have hnl : n ≤ 70368744177010 := by rw [← hn.out (), List.length_append]; omega
    have c0 := he.out.c0
    have fz := he.out.fz 0
    rw [hn.out ()] at c0
    have ho : Hid (Own wr (g + 1) 5 1 A1 n c1 (u8s (l ++ acc))) := Lib.hid (by have := he.out.own; rwa [hn.out ()] at this)
    have hgl := Lib.hid (Nat.succ_le_of_lt he.out.lt)
    by_cases hu128 : u < 128
    · have hu0 : (u : Int) < 128 := by omega
      have hm : (u : Int) % 256 = (u : Int) := by omega
      have hfin : Hid (acc ++ [u] = V) := Lib.hid (by have := hu.out.1; rwa [varF, if_pos hu128] at this)
      go_wp2_with (first | (at_builtin; refine wpList_app1 elB _ #[_] rfl rfl _ _ rfl rfl ho.out rfl (by intro u hu; simp at hu; subst hu; rfl) (by unfold maxLen; omega) (by omega) hgl.out (n + 1) rfl _ rfl ?_; intro A2 c2 w2 o2 at2 _; have hp := Lib.hid (he.out.one at2 (by rw [hn.out ()]) o2); have hm2 := he.out.mid at2; have m0 := hm2.1; have m1 := hm2.2; rw [hn.out ()] at m0; clear hm2 o2 at2 c0 fz))
      go_end0
      exact ⟨⟨_, rfl⟩, A2, c2, by rw [← hfin.out, ← List.append_assoc]; exact hp.out.1, hr.out.trans hp.out.2⟩
    · have hu0 : (128 : Int) ≤ (u : Int) := by omega
      obtain ⟨f, rfl⟩ : ∃ q, f = q + 1 := by
        refine ⟨f - 1, ?_⟩
        have := hu.out.2
        by_cases h0 : f = 0
        · subst h0; simp at this; omega
        · omega
      obtain ⟨y, hy⟩ : ∃ y, Hid (u % 128 + 128 = y) := ⟨_, Lib.hid rfl⟩
      have hor : bits .or .u8 ((u : Int) % 256) 128 = (y : Int) := by
        have := or128 (u % 256) (by omega)
        rw [← hy.out]
        rw [show ((u % 256 : Nat) : Int) = (u : Int) % 256 by omega, show u % 256 % 128 = u % 128 by omega] at this
        exact this
      have hnx : Hid ((acc ++ [y]) ++ varF (f + 1) (u / 128) = V ∧ u / 128 < 128 ^ (f + 1)) := Lib.hid ⟨by
          have := hu.out.1
          rw [varF, if_neg hu128, hy.out] at this
          rw [List.append_assoc]
          exact this, by
          have := hu.out.2
          rw [Nat.pow_succ, Nat.mul_comm] at this
          exact Nat.div_lt_of_lt_mul this⟩
      go_wp2_with (first | (at_builtin; refine wpList_app1 elB _ #[_] rfl rfl _ _ rfl rfl ho.out rfl (by intro u hu; simp at hu; subst hu; rfl) (by unfold maxLen; omega) (by omega) hgl.out (n + 1) rfl _ rfl ?_; intro A2 c2 w2 o2 at2 _; have hp := Lib.hid (he.out.one at2 (by rw [hn.out ()]) o2); have hm2 := he.out.mid at2; have m0 := hm2.1; have m1 := hm2.2; rw [hn.out ()] at m0; clear hm2 o2 at2 c0 fz))
      go_roundw
      case rel => exact ⟨f, u / 128, acc ++ [y], A2, c2, by go_num, by omega, by simp; omega, hnx, Lib.hid (by rw [← List.append_assoc]; exact hp.out.1), Lib.hid (hr.out.trans hp.out.2)⟩
      case measure => simp [intOf]; omega
end Go.Proofs.YtkjndgapejbgcaaDoor

namespace Go.Proofs.YtkjndgapejbgcaaDoor
open Go.RowKit
set_option linter.unusedSimpArgs false

theorem len_any {w : World} {g c : Nat} {A : Option Addr} {l : List Nat} (h : EncAt w g A c l) : Calls Tryd.prog 39 #[.pointer (some ⟨g, 0, none⟩)] w fun e w' => e = .returned (.int .i64 (l.length : Nat)) ∧ w = w' := by
  have c0 := h.c0
  clear h
  go_enter Tryd.func39, Tryd.ntmps39
  go_wp2_with fail
  go_ret
  exact ⟨rfl, rfl⟩

set_option maxRecDepth 20000 in
set_option maxHeartbeats 1000000 in
theorem key_any {w : World} {g c : Nat} {A : Option Addr} {l : List Nat} (h : EncAt w g A c l) (x : Key32) (hs : l.length ≤ 70368744177000) :
    Calls Tryd.prog 36 #[.pointer (some ⟨g, 0, none⟩), .agg (encK x).toArray] w fun e w' => (∃ v, e = .returned v) ∧ ∃ A' c', EncAt w' g A' c' (l ++ x.1) ∧ EncR g w A w' A' := by
  have hb : Below w.heap.size w (w.alloc (.cells (encK x).toArray 28)) := (Below.refl _ _).alloc (Nat.le_refl _) _
  have hk : EncAt (w.alloc (.cells (encK x).toArray 28)) g A c l := h.keep hb
  have hx : Byt (w.alloc (.cells (encK x).toArray 28)) (w.heap.size + 1) (some ⟨w.heap.size, 0, none⟩) x.1 := fun _ => by
    refine ⟨w.heap.size, 0, rfl, by omega, fun j hj => ?_⟩
    rw [Nat.zero_add, cell_of_row _ _ _ _ _ _ (heap_alloc_new w _)]
    have := u8s_get x.1 j hj
    simpa [encK] using this
  have hrw := raw_any hk x.1 (some ⟨w.heap.size, 0, none⟩) 32 32 _ x.2 hx (by omega)
  have hrw' := Lib.hid hrw
  have hr : Hid (EncR g w A (w.alloc (.cells (encK x).toArray 28)) A) := Lib.hid ⟨rfl, rfl, rfl, by simp, fun k hk _ _ => Below.heap_alloc w _ k hk, .inl rfl⟩
  clear hb hk hx hrw h
  go_enter Tryd.func36, Tryd.ntmps36
  go_wp2_with fail
  refine hrw'.out.mono ?_
  rintro e w' ⟨⟨v, rfl⟩, A', c', h1, h2⟩
  have h1' := Lib.hid h1
  have h2' := Lib.hid (hr.out.trans h2)
  clear h1 h2
  go_wp2_with fail
  go_end0
  exact ⟨⟨_, rfl⟩, A', c', h1'.out, h2'.out⟩

set_option maxRecDepth 20000 in
theorem width8_any (w : World) : Calls Tryd.prog 68 #[] w fun e w' => e = .returned (.int .i64 1) ∧ w = w' := by
  go_enter Tryd.func68, Tryd.ntmps68
  go_wp2_with fail
  go_loop [1, 2] (fun i v => (i = .int .i64 0 ∧ v = .int .u8 1) ∨ (i = .int .i64 1 ∧ v = .int .u8 0)) (fun i _ => 2 - (intOf i).toNat)
  case atStart => exact .inl ⟨rfl, rfl⟩
  case round =>
    rcases hrel with ⟨rfl, rfl⟩ | ⟨rfl, rfl⟩
    · go_wp2_with fail
      go_round
      case rel => exact .inr ⟨rfl, rfl⟩
      case measure => simp [intOf]
    · go_wp2_with fail
      go_ret
      exact ⟨rfl, rfl⟩
end Go.Proofs.YtkjndgapejbgcaaDoor
