/- An object's value and its block. spare: a copy of some bytes with marks behind it. Copied: an object with lists of its own: the words. -/
import Derived.Test.YtkjndgapejbgcaaDoorPkA4
import Derived.Laws.IdiomStrings
import Derived.Laws.BytesArg
import Derived.WalkLawsBesides
import Derived.Great.Walk

namespace Go.Proofs.YtkjndgapejbgcaaDoor
open Go.RowKit
set_option linter.unusedSimpArgs false

structure ObjT where
  kind : Nat
  data : List Nat
  parts : List PartT
  items : List ItemT
  tree : Key32
  parents : List Key32
  time : Int
  note : ByteArray
/-- Where an object's lists lie. -/
structure Lay where
  Ad : Option Addr
  Ap : Option Addr
  Ai : Option Addr
  Ak : Option Addr
  cd : Nat
  cp : Nat
  ci : Nat
  ck : Nat
def ocells (o : ObjT) (p : Lay) : List Value :=
  .int .u8 (o.kind : Int) :: .slice p.Ad o.data.length p.cd :: .slice p.Ap o.parts.length p.cp :: .slice p.Ai o.items.length p.ci :: (u8s o.tree.1 ++ [.slice p.Ak o.parents.length p.ck, .int .i64 o.time, .string o.note])
theorem ocells_length (o : ObjT) (p : Lay) : (ocells o p).length = 39 := by simp [ocells, u8s, o.tree.2]
theorem ocells_tree (o : ObjT) (p : Lay) (j : Nat) (v : Value) (h : (u8s o.tree.1)[j]? = some v) : (ocells o p)[4 + j]? = some v := by
  have h1 : j < (u8s o.tree.1).length := (List.getElem?_eq_some_iff.1 h).1
  unfold ocells
  rw [Nat.add_comm 4 j]
  simp only [List.getElem?_cons_succ]
  rw [List.getElem?_append_left h1, h]
theorem ocells_end (o : ObjT) (p : Lay) : (ocells o p)[36]? = some (.slice p.Ak o.parents.length p.ck) ∧ (ocells o p)[37]? = some (.int .i64 o.time) ∧ (ocells o p)[38]? = some (.string o.note) := by
  have h : (u8s o.tree.1).length = 32 := by simp [u8s, o.tree.2]
  unfold ocells
  refine ⟨?_, ?_, ?_⟩ <;> simp only [List.getElem?_cons_succ] <;> rw [List.getElem?_append_right (by omega), h] <;> rfl
/-- An object's lists, as they lie below block B. -/
structure ObjIn (w : World) (B : Nat) (o : ObjT) (p : Lay) : Prop where
  d : Byt w B p.Ad o.data
  ps : Row encP 33 w B p.Ap o.parts
  xs : Row encI 35 w B p.Ai o.items
  ks : Row encK 32 w B p.Ak o.parents
theorem ObjIn.below {w w' : World} {B : Nat} {o : ObjT} {p : Lay} (h : ObjIn w B o p) (hb : Below B w w') : ObjIn w' B o p :=
  ⟨h.d.below hb, Rd.below h.ps hb, Rd.below h.xs hb, Rd.below h.ks hb⟩
theorem ObjIn.mono {w : World} {B B' : Nat} {o : ObjT} {p : Lay} (h : ObjIn w B o p) (hb : B ≤ B') : ObjIn w B' o p :=
  ⟨h.d.mono hb, Rd.mono h.ps hb, Rd.mono h.xs hb, Rd.mono h.ks hb⟩
/-- No list is too long. -/
structure Fit (o : ObjT) : Prop where
  d : o.data.length ≤ 140737488355328
  ps : o.parts.length * 40 ≤ 140737488355328
  xs : o.items.length * 64 ≤ 140737488355328
  ks : o.parents.length * 32 ≤ 140737488355328
  b : ∀ x ∈ o.data, x < 256
/-- An object's block. -/
abbrev OBlk (w : World) (g : Nat) (o : ObjT) (p : Lay) : Prop := w.heap[g]? = some (.cells (ocells o p).toArray 31 (0, 0))
section
variable {w : World} {g : Nat} {o : ObjT} {p : Lay}
theorem OBlk.cell (h : OBlk w g o p) {j : Nat} {v : Value} (hv : (ocells o p)[j]? = some v) : w.cell? ⟨g, j, none⟩ = some v := by
  rw [cell_of_row _ _ _ _ _ _ h]
  simpa using hv
theorem OBlk.c0 (h : OBlk w g o p) : w.cell? ⟨g, 0, none⟩ = some (.int .u8 (o.kind : Int)) := h.cell rfl
theorem OBlk.c1 (h : OBlk w g o p) : w.cell? ⟨g, 1, none⟩ = some (.slice p.Ad o.data.length p.cd) := h.cell rfl
theorem OBlk.c2 (h : OBlk w g o p) : w.cell? ⟨g, 2, none⟩ = some (.slice p.Ap o.parts.length p.cp) := h.cell rfl
theorem OBlk.c3 (h : OBlk w g o p) : w.cell? ⟨g, 3, none⟩ = some (.slice p.Ai o.items.length p.ci) := h.cell rfl
theorem OBlk.c36 (h : OBlk w g o p) : w.cell? ⟨g, 36, none⟩ = some (.slice p.Ak o.parents.length p.ck) := h.cell (ocells_end o p).1
theorem OBlk.c37 (h : OBlk w g o p) : w.cell? ⟨g, 37, none⟩ = some (.int .i64 o.time) := h.cell (ocells_end o p).2.1
theorem OBlk.c38 (h : OBlk w g o p) : w.cell? ⟨g, 38, none⟩ = some (.string o.note) := h.cell (ocells_end o p).2.2
theorem OBlk.tree (h : OBlk w g o p) : w.rangeAt g 4 (encK o.tree) := fun j v hv => h.cell (ocells_tree o p j v hv)
theorem OBlk.below {w' : World} {B : Nat} (h : OBlk w g o p) (hb : Below B w w') (hg : g < B) : OBlk w' g o p := (hb.block g hg).trans h
end
section
variable {P : Program} {ops : Array Oper} {rest : List Oper} {o : Oper} {a : Act} {w : World} {Q : Exit → Act → World → Prop}
theorem wpList_load_mid_g (hw : Region.wanted o (yielded ops a.tmps) = true) (ty : TypeId) (x : Operand) (ho : o.op = .load ty x)
    (b k : Nat) (hx : a.eval x = .pointer (some ⟨b, k, none⟩)) (cs : List Value) (d : TypeDesc) (hc : w.rangeAt b k cs)
    (hu : P.underlying ty = some d) (hd : d.isRow = true) (hi : (P.info? ty).map (·.size) = some cs.length)
    (h : wpList P ops Q rest (a.put o.dst (.agg cs.toArray)) w) : wpList P ops Q (o :: rest) a w :=
  wpList_step fun K hK => by
    rw [if_pos hw]
    exact wp_load_mid ty x ho b k hx cs d hc hu hd hi (hK _ _ h)
end
/-- Are two objects alike? -/
def sameO (a b : ObjT) : Bool :=
  decide (a.kind = b.kind) && decide (a.data = b.data) && decide (a.parts = b.parts) && decide (a.items = b.items) && decide (a.tree = b.tree) && decide (a.parents = b.parents) && decide (a.time = b.time) && decide (a.note = b.note)
theorem sameO_self (a : ObjT) : sameO a a = true := by simp [sameO]
theorem int_eq {x y : Nat} : ((x : Int) == (y : Int)) = decide (x = y) := by
  by_cases h : x = y
  · subst h; simp
  · simp [h]; omega

/-- The text of some bytes. -/
def strB (l : List Nat) : ByteArray := ⟨(l.map fun x : Nat => x.toUInt8).toArray⟩
theorem u8_inj {x y : Nat} (hx : x < 256) (hy : y < 256) (h : x.toUInt8 = y.toUInt8) : x = y := by
  have := congrArg UInt8.toNat h
  simpa [Nat.mod_eq_of_lt hx, Nat.mod_eq_of_lt hy] using this
theorem map_inj8 : ∀ (a b : List Nat), (∀ x ∈ a, x < 256) → (∀ x ∈ b, x < 256) → a.map (fun x : Nat => x.toUInt8) = b.map (fun x : Nat => x.toUInt8) → a = b
  | [], [], _, _, _ => rfl
  | [], _ :: _, _, _, h => by simp at h
  | _ :: _, [], _, _, h => by simp at h
  | x :: a, y :: b, ha, hb, h => by
    simp only [List.map_cons, List.cons.injEq] at h
    rw [u8_inj (ha x (by simp)) (hb y (by simp)) h.1, map_inj8 a b (fun z hz => ha z (by simp [hz])) (fun z hz => hb z (by simp [hz])) h.2]
theorem strB_eq (a b : List Nat) (ha : ∀ x ∈ a, x < 256) (hb : ∀ x ∈ b, x < 256) : ((strB a).toList == (strB b).toList) = decide (a = b) := by
  rw [bytes_eq]
  have h : strB a = strB b ↔ a = b := ⟨fun h => map_inj8 a b ha hb (by simpa [strB] using h), fun h => by rw [h]⟩
  rw [Bool.eq_iff_iff, decide_eq_true_iff, decide_eq_true_iff, h]
theorem conv_bytes (w : World) (l : List Nat) (A : Option Addr) (c B : Nat) (h : Byt w B A l) (hb : ∀ x ∈ l, x < 256) : (convert 24 9 (.slice A l.length c)).run Tryd.prog w = .ok (.string (strB l)) w := by
  have key : ∀ (b off : Nat), (∀ j, j < l.length → w.cell? ⟨b, off + j, none⟩ = some (.int .u8 ((l[j]?.getD 0 : Nat) : Int))) → (convert 24 9 (.slice (some ⟨b, off, none⟩) l.length c)).run Tryd.prog w = .ok (.string (strB l)) w := fun b off hc => by
    have := run_convert_bytes_back (P := Tryd.prog) w 24 9 5 ⟨b, off, none⟩ c (l.map fun x : Nat => x.toUInt8) Tryd.underlying24 Tryd.underlying5 Tryd.underlying9 (fun j hj => by
      have hj2 : j < l.length := by simpa using hj
      rw [Addr.add_lit, hc j hj2, List.getElem?_eq_getElem hj2, Option.getD_some]
      have := hb _ (List.getElem_mem hj2)
      simp [Nat.mod_eq_of_lt this])
    simpa [strB] using this
  rcases Nat.eq_zero_or_pos l.length with h0 | h0
  · obtain rfl : l = [] := List.length_eq_zero_iff.1 h0
    cases A with
    | none =>
      have := run_convert_bytes_nil (P := Tryd.prog) w 24 5 Tryd.underlying24 Tryd.underlying5 0 c 9 Tryd.underlying9
      exact this
    | some a =>
      have := run_convert_bytes_back (P := Tryd.prog) w 24 9 5 a c [] Tryd.underlying24 Tryd.underlying5 Tryd.underlying9 (fun j hj => by simp at hj)
      exact this
  · obtain ⟨b, off, rfl, _, hc⟩ := h h0
    exact key b off hc
end Go.Proofs.YtkjndgapejbgcaaDoor

namespace Go.Proofs.YtkjndgapejbgcaaDoor
open Go.RowKit
set_option linter.unusedSimpArgs false

theorem elB : ElemOk Tryd.prog 24 5 (.int .u8 0) 1 1 := ⟨Tryd.underlying24, by kernel_rfl, rfl, by decide⟩
theorem elP : ElemOk Tryd.prog 25 47 (.agg (encP (⟨zeros 32, by simp [zeros]⟩, 0)).toArray) 33 40 := ⟨Tryd.underlying25, by kernel_rfl, rfl, by decide⟩
theorem elI : ElemOk Tryd.prog 26 50 (.agg (encI (⟨#[]⟩, 0, 0, ⟨zeros 32, by simp [zeros]⟩)).toArray) 35 64 := ⟨Tryd.underlying26, by kernel_rfl, rfl, by decide⟩
theorem elK : ElemOk Tryd.prog 29 28 (.agg (encK ⟨zeros 32, by simp [zeros]⟩).toArray) 32 32 := ⟨Tryd.underlying29, by kernel_rfl, rfl, by decide⟩

/-- A list and i marks. -/
def marked (b : List Nat) (i : Nat) : List Nat := b ++ List.replicate i 165
theorem marked_length (b : List Nat) (i : Nat) : (marked b i).length = b.length + i := by simp [marked]
theorem u8s_set (l : List Nat) (k x : Nat) : (u8s l).set k (.int .u8 (x : Int)) = u8s (l.set k x) := by simp [u8s, List.map_set]
/-- The first k of some bytes, and noughts. -/
def filled (b : List Nat) (n k : Nat) : List Nat := b.take k ++ List.replicate (n - k) 0
theorem set_mid {p : List Nat} {k m x : Nat} (h : p.length = k) (hm : 0 < m) : (p ++ List.replicate m 0).set k x = (p ++ [x]) ++ List.replicate (m - 1) 0 := by
  obtain ⟨m, rfl⟩ : ∃ j, m = j + 1 := ⟨m - 1, by omega⟩
  subst h
  rw [List.set_append_right _ _ (Nat.le_refl _), Nat.sub_self, List.replicate_succ, List.set_cons_zero]
  simp
theorem filled_set {b : List Nat} {n k x : Nat} (hk : k < b.length) (hn : k < n) (hx : b[k]?.getD 0 = x) : (u8s (filled b n k)).set k (.int .u8 (x : Int)) = u8s (filled b n (k + 1)) := by
  rw [u8s_set]
  unfold filled
  rw [set_mid (by simp; omega) (by omega)]
  rw [List.take_succ_eq_append_getElem hk]
  rw [List.getElem?_eq_getElem hk, Option.getD_some] at hx
  rw [hx, show n - k - 1 = n - (k + 1) by omega]
theorem filled_zero (b : List Nat) (n : Nat) : u8s (filled b n 0) = List.replicate n (.int .u8 0) := by simp [filled, u8s]
def filled2 (b : List Nat) (n k : Nat) : List Nat := marked b (k - b.length) ++ List.replicate (n - k) 0
theorem filled_full (b : List Nat) (n : Nat) : filled b n b.length = filled2 b n b.length := by simp [filled, filled2, marked]
theorem filled2_set {b : List Nat} {n k : Nat} (hk : b.length ≤ k) (hn : k < n) : (u8s (filled2 b n k)).set k (.int .u8 165) = u8s (filled2 b n (k + 1)) := by
  rw [show (Value.int .u8 165) = Value.int .u8 ((165 : Nat) : Int) from rfl, u8s_set]
  unfold filled2
  rw [set_mid (by rw [marked_length]; omega) (by omega), show n - k - 1 = n - (k + 1) by omega, show k + 1 - b.length = (k - b.length) + 1 by omega]
  congr 2
  simp [marked, List.replicate_succ']
theorem filled2_full (b : List Nat) (n : Nat) : filled2 b (b.length + n) (b.length + n) = marked b n := by simp [filled2]
theorem filled_length (b : List Nat) (n k : Nat) (h : k ≤ b.length) (hn : k ≤ n) : (filled b n k).length = n := by simp [filled]; omega
theorem filled2_length (b : List Nat) (n k : Nat) (h : b.length ≤ k) (hn : k ≤ n) : (filled2 b n k).length = n := by simp [filled2, marked]; omega

set_option maxRecDepth 100000 in
set_option maxHeartbeats 1000000 in
theorem spare_any (w : World) (b : List Nat) (A : Option Addr) (c : Nat) (hA : Byt w w.heap.size A b) (hL : b.length ≤ 140737488355328) :
    Calls Tryd.prog 18 #[.slice A b.length c] w fun e w' => (∃ ga cc, e = .returned (.slice (some ⟨ga, 0, none⟩) b.length cc) ∧ Own w' w.heap.size 5 1 (some ⟨ga, 0, none⟩) (b.length + 70) cc (u8s (marked b 70))) ∧ Below w.heap.size w w' := by
  obtain ⟨L, hLL⟩ : ∃ L, Hid (∀ _ : Unit, b.length = L) := ⟨_, Lib.hid fun _ => rfl⟩
  rw [hLL.out ()] at hL ⊢
  have hA' := Lib.hid hA
  clear hA
  go_enter Tryd.func18, Tryd.ntmps18
  go_wp2_with (at_make; refine wpList_mk elB w rfl _ _ rfl rfl rfl (L + 70) (L + 70) (by omega) (by omega) (by omega) (by omega) (by unfold maxLen; omega) (Nat.le_refl _) ?_; intro w1 hown1 _ hb1 _; rw [made_one _ rfl, ← filled_zero b] at hown1)
  generalize hGe : w.heap.size = G at hown1 hb1 hA' ⊢
  have hGe' := Lib.hid (fun _ : Unit => hGe)
  clear hGe
  go_loopw [4] (fun i wr => ∃ k : Nat, k ≤ L ∧ i = .int .i64 k ∧ Hid (Own wr G 5 1 (some ⟨G, 0, none⟩) (L + 70) (L + 70) (u8s (filled b (L + 70) k))) ∧ Hid (Below G w wr)) (fun i _ => L - (intOf i).toNat)
  case atStart => exact ⟨0, by omega, rfl, Lib.hid hown1, Lib.hid hb1⟩
  case round =>
    clear hown1 hb1
    obtain ⟨k, hk, rfl, hown, hbel⟩ := hrel
    by_cases hlt : k < L
    · obtain ⟨b0, off, rfl, _, hc⟩ := (hA'.out.below hbel.out).get (show k < b.length by rw [hLL.out ()]; exact hlt)
      obtain ⟨x, hx⟩ : ∃ x, b[k]?.getD 0 = x := ⟨_, rfl⟩
      simp only [hx] at hc
      have hkb : k < b.length := by rw [hLL.out ()]; exact hlt
      have hst := hown.out.set k (.int .u8 (x : Int))
      rw [filled_set hkb (by omega) hx] at hst
      have hst' := Lib.hid hst
      have hcl := hown.out.cell k (by omega)
      rw [u8s_get _ _ (by rw [filled_length _ _ _ (by omega) (by omega)]; omega)] at hcl
      have hfz := hown.out.frozen k
      have hbel2 := Lib.hid (hbel.out.setCell (p := ⟨G, k, none⟩) (Nat.le_refl _) (.int .u8 (x : Int)))
      clear hst hx hkb hown hbel
      go_wp2_with fail
      go_roundw
      case rel => exact ⟨k + 1, by omega, by go_num, hst', hbel2⟩
      case measure => simp [intOf]; omega
    · obtain rfl : k = L := by omega
      rw [← hLL.out (), filled_full, hLL.out ()] at hown
      go_wp2_with fail
      go_loopw [5] (fun i wr => ∃ j : Nat, k ≤ j ∧ j ≤ k + 70 ∧ i = .int .i64 j ∧ Hid (Own wr G 5 1 (some ⟨G, 0, none⟩) (k + 70) (k + 70) (u8s (filled2 b (k + 70) j))) ∧ Hid (Below G w wr)) (fun i _ => k + 70 - (intOf i).toNat)
      case atStart => exact ⟨k, by omega, by omega, rfl, hown, hbel⟩
      case round =>
        clear hown hbel
        obtain ⟨j, hj, hj2, rfl, hown, hbel⟩ := hrel
        by_cases hjl : j < k + 70
        · have hst := hown.out.set j (.int .u8 165)
          rw [filled2_set (by rw [hLL.out ()]; exact hj) hjl] at hst
          have hst' := Lib.hid hst
          have hcl := hown.out.cell j (by omega)
          rw [u8s_get _ _ (by rw [filled2_length _ _ _ (by rw [hLL.out ()]; exact hj) hj2]; omega)] at hcl
          have hfz := hown.out.frozen j
          have hbel2 := Lib.hid (hbel.out.setCell (p := ⟨G, j, none⟩) (Nat.le_refl _) (.int .u8 165))
          clear hst hown hbel
          go_wp2_with fail
          go_roundw
          case rel => exact ⟨j + 1, by omega, by omega, by go_num, hst', hbel2⟩
          case measure => simp [intOf]; omega
        · obtain rfl : k + 70 = j := by omega
          have hown2 := hown.out
          rw [show filled2 b (k + 70) (k + 70) = marked b 70 by rw [← hLL.out ()]; exact filled2_full b 70] at hown2
          have hown3 := Lib.hid hown2
          have hsl : ∀ W : World, (Instr.slice 24 (.slice (some ⟨G, 0, none⟩) (k + 70) (k + 70)) none (some (.int .i64 (k : Int))) none).run Tryd.prog W = .ok (.slice (some ⟨G, 0, none⟩) k (k + 70)) W := fun W => by
            have hs : (sizeOf (Tryd.prog.elem 24)).run Tryd.prog W = .ok 1 W := by kernel_rfl
            rw [run_slice_h W 24 _ (k + 70) (k + 70) (by rw [Tryd.underlying24]; kernel_rfl) .i64 (k : Int) (by omega) (by omega), hs]
            simp only [Result.andThen, sliced, Int.toNat_natCast, Nat.zero_mul, Nat.sub_zero]
            rw [if_neg (by omega)]
            simp [Addr.add_lit]
          clear hown2 hown
          go_wp2_with fail
          go_ret
          rw [hGe'.out ()]
          exact ⟨⟨G, k + 70, rfl, hown3.out⟩, hbel.out⟩
end Go.Proofs.YtkjndgapejbgcaaDoor

namespace Go.Proofs.YtkjndgapejbgcaaDoor
open Go.RowKit
set_option linter.unusedSimpArgs false

def zK : Key32 := ⟨zeros 32, by simp [zeros]⟩
def mkP : PartT := (zK, 92)
def mkI : ItemT := (⟨#[]⟩, 0, 92, zK)
def mkK : Key32 := ⟨zeros 9 ++ [92] ++ zeros 22, by simp [zeros]⟩
theorem run_bslice {P : Program} (w : World) (t e : TypeId) (len : Nat) (parts : Array (Nat × Value)) (cells : Array Value) (hu : P.underlying t = some (.slice e))
    (hf : P.builtSlice e len parts.toList = some cells) : (Instr.buildSlice t len parts).run P w = .ok (.slice (some ⟨w.heap.size, 0, none⟩) len len) (w.alloc (.cells cells e)) := by
  unfold Program.builtSlice at hf
  cases hie : P.info? e with
  | none => simp [hie] at hf
  | some ie =>
    simp only [hie] at hf
    cases hz : ie.zero with
    | none => simp [hz] at hf
    | some z =>
      simp only [hz] at hf
      by_cases hc : len * ie.size > 2 ^ 24 ∨ len * ie.size = 0
      · simp [hc] at hf
      · rw [if_neg hc] at hf
        exact run_buildSlice w t e len parts cells ie z hu hie hz (fun h' => hc (Or.inl h')) (fun h' => hc (Or.inr h')) hf
theorem buildP (w : World) : (Instr.build 47 #[(1, .int .u64 92)]).run Tryd.prog w = .ok (.agg (encP mkP).toArray) w := run_build w _ _ _ (by kernel_rfl)
theorem buildI (w : World) : (Instr.build 50 #[(2, .int .u64 92)]).run Tryd.prog w = .ok (.agg (encI mkI).toArray) w := run_build w _ _ _ (by kernel_rfl)
theorem buildK (w : World) : (Instr.build 28 #[(9, .int .u8 92)]).run Tryd.prog w = .ok (.agg (encK mkK).toArray) w := run_build w _ _ _ (by kernel_rfl)
theorem bslP (w : World) : (Instr.buildSlice 25 2 #[(0, .agg (encP mkP).toArray), (1, .agg (encP mkP).toArray)]).run Tryd.prog w = .ok (.slice (some ⟨w.heap.size, 0, none⟩) 2 2) (w.alloc (.cells (flat encP [mkP, mkP]).toArray 47)) :=
  run_bslice w _ _ _ _ _ Tryd.underlying25 (by kernel_rfl)
theorem bslI (w : World) : (Instr.buildSlice 26 2 #[(0, .agg (encI mkI).toArray), (1, .agg (encI mkI).toArray)]).run Tryd.prog w = .ok (.slice (some ⟨w.heap.size, 0, none⟩) 2 2) (w.alloc (.cells (flat encI [mkI, mkI]).toArray 50)) :=
  run_bslice w _ _ _ _ _ Tryd.underlying26 (by kernel_rfl)
theorem bslK (w : World) : (Instr.buildSlice 29 2 #[(0, .agg (encK mkK).toArray), (1, .agg (encK mkK).toArray)]).run Tryd.prog w = .ok (.slice (some ⟨w.heap.size, 0, none⟩) 2 2) (w.alloc (.cells (flat encK [mkK, mkK]).toArray 28)) :=
  run_bslice w _ _ _ _ _ Tryd.underlying29 (by kernel_rfl)

section
variable {α : Type} {enc : α → List Value} {k : Nat}
theorem flat_one (h1 : ∀ x, ∀ v ∈ enc x, v.oneCell' = true) (l : List α) : ∀ u ∈ flat enc l, u.oneCell' = true := fun u hu => by
  obtain ⟨x, _, hx⟩ := List.mem_flatMap.1 hu
  exact h1 x u hx
theorem range_flat (hk : ∀ x, (enc x).length = k) (l : List α) : (List.range (l.length * k)).map (fun j => (flat enc l)[j]?.getD undef) = flat enc l := by
  have hl := flat_length hk l
  apply List.ext_getElem
  · simp [hl]
  · intro j h1 h2
    simp [List.getElem?_eq_getElem h2]
theorem getD_one (h1 : ∀ x, ∀ v ∈ enc x, v.oneCell' = true) (hk : ∀ x, (enc x).length = k) (l : List α) : ∀ j, j < l.length * k → ((flat enc l)[j]?.getD undef).oneCell' = true := fun j hj => by
  have hl : j < (flat enc l).length := by rw [flat_length hk]; exact hj
  rw [List.getElem?_eq_getElem hl, Option.getD_some]
  exact flat_one h1 l _ (List.getElem_mem hl)
/-- A row of the call's own, as a row to be read. -/
theorem Own.row (hk : ∀ x, (enc x).length = k) {w : World} {B : Nat} {e : TypeId} {c : Nat} {A : Option Addr} {l m : List α} {n : Nat} (h : Own w B e k A n c (flat enc (l ++ m))) (hn : n = l.length + m.length) : Row enc k w w.heap.size A l := by
  subst hn
  have := (Rd.take h.rd (m := l.length * k) (by rw [Nat.add_mul]; omega))
  refine Rd.congr this fun j hj => ?_
  rw [flat_append, List.getElem?_append_left (by rw [flat_length hk]; exact hj)]
end
theorem Row.at {α : Type} {enc : α → List Value} {k : Nat} {w : World} {B : Nat} {A : Option Addr} {l : List α} (h : Row enc k w B A l) {n : Nat} (hn : l.length = n) : Rd w B A (n * k) (fun j => (flat enc l)[j]?.getD undef) := by
  subst hn
  exact h
theorem encP_one (x : PartT) : ∀ v ∈ encP x, v.oneCell' = true := fun v hv => by
  simp only [encP, List.mem_append, List.mem_singleton] at hv
  rcases hv with hv | rfl
  · exact u8s_one v hv
  · rfl
theorem encI_one (x : ItemT) : ∀ v ∈ encI x, v.oneCell' = true := fun v hv => by
  simp only [encI, List.mem_append, List.mem_cons, List.not_mem_nil, or_false] at hv
  rcases hv with (rfl | rfl | rfl) | hv
  · rfl
  · rfl
  · rfl
  · exact u8s_one v hv
theorem encK_one (x : Key32) : ∀ v ∈ encK x, v.oneCell' = true := fun v hv => u8s_one v hv
theorem ocells_one (o : ObjT) (p : Lay) : ∀ v ∈ ocells o p, v.oneCell' = true := fun v hv => by
  simp only [ocells, List.mem_append, List.mem_cons, List.not_mem_nil, or_false] at hv
  rcases hv with rfl | rfl | rfl | rfl | hv | rfl | rfl | rfl
  · rfl
  · rfl
  · rfl
  · rfl
  · exact u8s_one v hv
  · rfl
  · rfl
  · rfl
end Go.Proofs.YtkjndgapejbgcaaDoor
