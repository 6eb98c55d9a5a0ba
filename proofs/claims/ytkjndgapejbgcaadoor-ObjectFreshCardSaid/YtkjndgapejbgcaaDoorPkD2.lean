/- What a decoder reckons: plain words. No program is named here. More words on rows of the call's own. No program is named here. Arrays of numbers, compared. No program is named here. Objects, their parts, items and keys, in memory. -/
import Derived.Test.YtkjndgapejbgcaaDoorPkD1
import Derived.DeepKeys2
import Derived.Laws.StructEq
import Derived.Test.YtkjndgapejbgcaaDoorProg
import Derived.Shelf.SlicesQ.Load
import Derived.Deep.MidRow
import Derived.Deep.QuietTactic

namespace Go.Proofs.YtkjndgapejbgcaaDoor

/-- A number off the front: so many further bytes at most, the place of this byte, what has been gathered. The number and how many bytes it had; none: it is wrong. -/
def varG (most : Nat) : Nat → Nat → Nat → List Nat → Option (Nat × Nat)
  | 0, _, _, _ => none
  | _ + 1, _, _, [] => none
  | f + 1, i, v, c :: r =>
    if i = 9 ∧ 1 < c then none
    else if c < 128 then (if (c = 0 ∧ 0 < i) ∨ most < v + c * 128 ^ i then none else some (v + c * 128 ^ i, i + 1))
    else varG most f (i + 1) (v + (c - 128) * 128 ^ i) r
/-- Where a decoder stands; none: it was stopped. -/
abbrev DSt := Option Nat
def varM (l : List Nat) (most : Nat) : DSt → Nat × DSt
  | none => (0, none)
  | some k => match varG most 10 0 0 (l.drop k) with
    | none => (0, none)
    | some (v, n) => (v, some (k + n))
/-- So many bytes. -/
def rawM (l : List Nat) (n : Nat) : DSt → List Nat × DSt
  | none => ([], none)
  | some k => if n ≤ l.length - k then ((l.drop k).take n, some (k + n)) else ([], none)
/-- Bytes as a number, the lowest first. -/
def leN : List Nat → Nat
  | [] => 0
  | c :: r => c + 256 * leN r
def fixM (l : List Nat) (n : Nat) (s : DSt) : Nat × DSt := (leN (rawM l n s).1, (rawM l n s).2)
/-- A text's bytes. -/
def textM (l : List Nat) (most : Nat) (s : DSt) : List Nat × DSt := rawM l (varM l most s).1 (varM l most s).2
theorem rawM_none (l : List Nat) (n : Nat) : rawM l n none = ([], none) := rfl
theorem varM_none (l : List Nat) (most : Nat) : varM l most none = (0, none) := rfl
theorem varG_count (most : Nat) : ∀ (f i v : Nat) (r : List Nat) (x n : Nat), varG most f i v r = some (x, n) → i < n ∧ n ≤ i + r.length ∧ n ≤ i + f
  | 0, _, _, _, _, _, h => by simp [varG] at h
  | _ + 1, _, _, [], _, _, h => by simp [varG] at h
  | f + 1, i, v, c :: r, x, n, h => by
    unfold varG at h
    split at h
    · cases h
    · split at h
      · split at h
        · cases h
        · simp only [Option.some.injEq, Prod.mk.injEq] at h
          simp only [List.length_cons]
          omega
      · have := varG_count most f (i + 1) _ r x n h
        simp only [List.length_cons]
        omega
theorem varG_most (most : Nat) : ∀ (f i v : Nat) (r : List Nat) (x n : Nat), varG most f i v r = some (x, n) → x ≤ most
  | 0, _, _, _, _, _, h => by simp [varG] at h
  | _ + 1, _, _, [], _, _, h => by simp [varG] at h
  | f + 1, i, v, c :: r, x, n, h => by
    unfold varG at h
    split at h
    · cases h
    · split at h
      · split at h
        · cases h
        · simp only [Option.some.injEq, Prod.mk.injEq] at h
          omega
      · exact varG_most most f (i + 1) _ r x n h
theorem varM_most (l : List Nat) (most : Nat) (s : DSt) : (varM l most s).1 ≤ most := by
  unfold varM
  split
  · exact Nat.zero_le _
  · split
    · exact Nat.zero_le _
    · rename_i h
      exact varG_most _ _ _ _ _ _ _ h
def DSt.le (s : DSt) (n : Nat) : Prop := ∀ k, s = some k → k ≤ n
theorem varM_le (l : List Nat) (most : Nat) (s : DSt) (h : s.le l.length) : (varM l most s).2.le l.length := by
  intro j hj
  unfold varM at hj
  split at hj
  · cases hj
  · rename_i k
    have hk := h k rfl
    split at hj
    · cases hj
    · rename_i x n hx
      have := varG_count _ _ _ _ _ _ _ hx
      rw [List.length_drop] at this
      simp only [Option.some.injEq] at hj
      omega
theorem rawM_le (l : List Nat) (n : Nat) (s : DSt) (h : s.le l.length) : (rawM l n s).2.le l.length := by
  intro j hj
  unfold rawM at hj
  split at hj
  · cases hj
  · rename_i k
    have hk := h k rfl
    split at hj
    · simp only [Option.some.injEq] at hj
      omega
    · cases hj
theorem textM_le (l : List Nat) (most : Nat) (s : DSt) (h : s.le l.length) : (textM l most s).2.le l.length := rawM_le _ _ _ (varM_le _ _ _ h)
theorem rawM_length (l : List Nat) (n : Nat) (s : DSt) : (rawM l n s).1.length ≤ n := by
  unfold rawM
  split
  · simp
  · split
    · rw [List.length_take]; omega
    · simp
theorem rawM_full (l : List Nat) (n k j : Nat) (h : (rawM l n (some k)).2 = some j) : (rawM l n (some k)).1 = (l.drop k).take n ∧ j = k + n ∧ n ≤ l.length - k := by
  unfold rawM at h ⊢
  simp only at h ⊢
  by_cases hn : n ≤ l.length - k
  · rw [if_pos hn] at h ⊢
    exact ⟨rfl, by simpa using h.symm, hn⟩
  · rw [if_neg hn] at h
    cases h
theorem leN_lt : ∀ r : List Nat, (∀ x ∈ r, x < 256) → leN r < 256 ^ r.length
  | [], _ => by simp [leN]
  | c :: r, h => by
    have h1 := leN_lt r fun x hx => h x (by simp [hx])
    have h2 := h c (by simp)
    unfold leN
    rw [List.length_cons, Nat.pow_succ]
    omega
theorem leN_append : ∀ (r s : List Nat), leN (r ++ s) = leN r + 256 ^ r.length * leN s
  | [], s => by simp [leN]
  | c :: r, s => by
    simp only [List.cons_append, leN, leN_append r s, List.length_cons, Nat.pow_succ]
    rw [Nat.mul_add, ← Nat.mul_assoc, Nat.mul_comm 256 (256 ^ r.length)]
    omega
end Go.Proofs.YtkjndgapejbgcaaDoor

namespace Go.Proofs.YtkjndgapejbgcaaDoor
open Go.RowKit
section
variable {P : Program} {ops : Array Oper} {rest : List Oper} {o : Oper} {a : Act} {Q : Exit → Act → World → Prop}
/-- The same, the new block's number spelled otherwise. -/
theorem wpList_app1h {t e : TypeId} {z : Value} {size bytes : Nat} (E : ElemOk P t e z size bytes) (w : World) (cs : Array Value) (hcs : cs.size = size) (hgd : o.guard = none) (s x : Operand)
    (ho : o.op = .call { callee := .builtin .append, args := #[s, x], argTypes := #[t, t] })
    {B : Nat} {A : Option Addr} {n c : Nat} {xs : List Value} (hs : a.eval s = .slice A n c) (hown : Own w B e size A n c xs)
    (H : Nat) (hH : w.heap.size = H) (hx : a.eval x = .slice (some ⟨H, 0, none⟩) 1 1) (h1 : ∀ u ∈ cs.toList, u.oneCell' = true)
    (hn : n + 1 ≤ maxLen) (hb : (n + 1 + (n + 1) / 4 + 192) * bytes ≤ 281474976710656) (hB : B ≤ w.heap.size) (N : Nat) (hN : n + 1 = N) (ys : List Value) (hys : xs ++ cs.toList = ys)
    (h : ∀ A' c' w', Own w' B e size A' N c' ys → AppAt w w' A A' → Below B w w' →
      wpList P ops Q rest (a.put o.dst (.slice A' N c')) w') : wpList P ops Q (o :: rest) a (w.alloc (.cells cs e)) := by
  subst hH
  exact wpList_app1 E w cs hcs hgd s x ho hs hown hx h1 hn hb hB N hN ys hys h

end
theorem Own.setFar {w : World} {B e size n c : Nat} {A : Option Addr} {xs : List Value} (h : Own w B e size A n c xs) {p : Addr} (hp : p.block < B) (u : Value) : Own (w.setCell p u) B e size A n c xs := ownsRow_setCell_below h hp u
theorem own_turn {w : World} {B e size n c : Nat} {A : Option Addr} {l : List Value} {q : IntKind} {x y : Int} (h : Own w B e size A n c (l ++ #[Value.int q x].toList)) (hxy : x = y) : Own w B e size A n c (l ++ [.int q y]) := by
  subst hxy
  exact h
end Go.Proofs.YtkjndgapejbgcaaDoor

namespace Go.Proofs.YtkjndgapejbgcaaDoor
open Go.RowKit

section
variable {P : Program} {w : World} {t e : TypeId} {k : IntKind} {n : Nat}
/-- An array's numbers. -/
def nrow (k : IntKind) (l : List Nat) : Array Value := (l.map fun b : Nat => Value.int k (b : Int)).toArray
theorem nrow_get {l : List Nat} {i : Nat} (h : i < l.length) : (nrow k l)[i]? = some (.int k ((l[i]?.getD 0 : Nat) : Int)) := by simp [nrow, h]
theorem eqItems_nrow (he : P.underlying e = some (.int k)) (d : Nat) {l l' : List Nat} (is : List Nat) (h : ∀ i ∈ is, i < l.length ∧ i < l'.length) :
    (Op.eqItems (d + 1) e 1 (nrow k l) (nrow k l') is).run P w = .ok (is.all fun i => l[i]?.getD 0 == l'[i]?.getD 0) w := by
  induction is with
  | nil => simp [Op.eqItems]
  | cons i is ih =>
    obtain ⟨h1, h2⟩ := h i (by simp)
    have hp : P.plainKey e = true := by simp [Program.plainKey, he]
    simp only [Op.eqItems, Sem.run_bind, Nat.mul_one, run_part_plain w hp (nrow_get h1), run_part_plain w hp (nrow_get h2), Result.andThen_ok, run_equalIn_int w d e k k _ _ he, List.all_cons]
    have hh : (((l[i]?.getD 0 : Nat) : Int) == ((l'[i]?.getD 0 : Nat) : Int)) = (l[i]?.getD 0 == l'[i]?.getD 0) := by
      rw [Bool.eq_iff_iff, beq_iff_eq, beq_iff_eq]; omega
    rw [hh]
    cases hb : (l[i]?.getD 0 == l'[i]?.getD 0)
    · simp
    · simpa using ih fun j hj => h j (by simp [hj])
theorem all_eq {l l' : List Nat} (h1 : l.length = n) (h2 : l'.length = n) : ((List.range n).all fun i => l[i]?.getD 0 == l'[i]?.getD 0) = decide (l = l') := by
  rw [Bool.eq_iff_iff, List.all_eq_true, decide_eq_true_iff]
  constructor
  · intro h
    apply List.ext_getElem (by omega)
    intro i hi hi2
    have := h i (List.mem_range.2 (by omega))
    simpa [hi, hi2] using this
  · rintro rfl i _
    simp
theorem equal_nrow (hu : P.underlying t = some (.array n e)) (he : P.underlying e = some (.int k)) (hc : P.cellsOf e = 1) {i : TypeInfo} (hi : P.info? e = some i) (d : Nat) {l l' : List Nat} (h1 : l.length = n) (h2 : l'.length = n) :
    (Op.equalIn (d + 2) t (.agg (nrow k l)) (.agg (nrow k l'))).run P w = .ok (decide (l = l')) w := by
  rw [run_equalIn_array w (d + 1) _ _ hu hi, hc, eqItems_nrow he d (List.range n) (fun i hi => by simp at hi; omega), all_eq h1 h2]
theorem eql_nrow (hu : P.underlying t = some (.array n e)) (he : P.underlying e = some (.int k)) (hc : P.cellsOf e = 1) {i : TypeInfo} (hi : P.info? e = some i) {l l' : List Nat} (h1 : l.length = n) (h2 : l'.length = n) :
    (binOp .eql t (.agg (nrow k l)) (.agg (nrow k l'))).run P w = .ok (.bool (decide (l = l'))) w := by
  rw [run_eql_struct, equal_nrow hu he hc hi 9998 h1 h2]
  rfl
theorem neq_nrow (hu : P.underlying t = some (.array n e)) (he : P.underlying e = some (.int k)) (hc : P.cellsOf e = 1) {i : TypeInfo} (hi : P.info? e = some i) {l l' : List Nat} (h1 : l.length = n) (h2 : l'.length = n) :
    (binOp .neq t (.agg (nrow k l)) (.agg (nrow k l'))).run P w = .ok (.bool (!decide (l = l'))) w := by
  rw [run_neq_struct, equal_nrow hu he hc hi 9998 h1 h2]
  rfl
end
end Go.Proofs.YtkjndgapejbgcaaDoor

namespace Go.Proofs.YtkjndgapejbgcaaDoor
open Go.RowKit
set_option linter.unusedSimpArgs false

def zeros (n : Nat) : List Nat := List.replicate n 0
abbrev Key32 := {l : List Nat // l.length = 32}
abbrev PartT := Key32 × Nat
abbrev ItemT := ByteArray × Nat × Nat × Key32
def encK (x : Key32) : List Value := u8s x.1
def encP (x : PartT) : List Value := u8s x.1.1 ++ [.int .u64 (x.2 : Int)]
def encI (x : ItemT) : List Value := [.string x.1, .int .u8 (x.2.1 : Int), .int .u64 (x.2.2.1 : Int)] ++ u8s x.2.2.2.1
theorem encK_length (x : Key32) : (encK x).length = 32 := by simp [encK, u8s, x.2]
theorem encP_length (x : PartT) : (encP x).length = 33 := by simp [encP, u8s, x.1.2]
theorem encI_length (x : ItemT) : (encI x).length = 35 := by simp [encI, u8s, x.2.2.2.2]

section
variable {α : Type} {enc : α → List Value} {k : Nat}
def flat (enc : α → List Value) (l : List α) : List Value := l.flatMap enc
theorem flat_length (hk : ∀ x, (enc x).length = k) : ∀ l : List α, (flat enc l).length = l.length * k
  | [] => by simp [flat]
  | x :: l => by
    have := flat_length hk l
    simp only [flat, List.flatMap_cons, List.length_append, hk, List.length_cons] at this ⊢
    rw [this, Nat.add_mul, Nat.one_mul, Nat.add_comm]
theorem flat_get (hk : ∀ x, (enc x).length = k) : ∀ (l : List α) (j i : Nat) (hj : j < l.length), i < k → (flat enc l)[j * k + i]? = (enc l[j])[i]?
  | x :: l, 0, i, _, hi => by
    simp only [flat, List.flatMap_cons, Nat.zero_mul, Nat.zero_add, List.getElem_cons_zero]
    rw [List.getElem?_append_left (by rw [hk]; exact hi)]
  | x :: l, j + 1, i, hj, hi => by
    have h1 : (enc x).length ≤ (j + 1) * k + i := by rw [hk, Nat.add_mul]; omega
    have := flat_get hk l j i (by simpa using hj) hi
    simp only [flat, List.flatMap_cons, List.getElem_cons_succ] at this ⊢
    rw [List.getElem?_append_right h1, hk, ← this]
    congr 1
    rw [Nat.add_mul, Nat.one_mul]
    omega
theorem flat_append (l m : List α) : flat enc (l ++ m) = flat enc l ++ flat enc m := by simp [flat]

/-- A row of elements of several cells. -/
abbrev Row (enc : α → List Value) (k : Nat) (w : World) (B : Nat) (A : Option Addr) (l : List α) : Prop := Rd w B A (l.length * k) (fun j => (flat enc l)[j]?.getD undef)
theorem Row.elem {w : World} {B : Nat} {A : Option Addr} {l : List α} (h : Row enc k w B A l) (hk : ∀ x, (enc x).length = k) (h0 : 0 < k) {j : Nat} (hj : j < l.length) :
    ∃ b off, A = some ⟨b, off, none⟩ ∧ b < B ∧ ∀ i v, (enc l[j])[i]? = some v → w.cell? ⟨b, off + j * k + i, none⟩ = some v := by
  have hp : 0 < l.length * k := Nat.mul_pos (by omega) h0
  obtain ⟨b, off, rfl, hb, hc⟩ := h hp
  refine ⟨b, off, rfl, hb, fun i v hv => ?_⟩
  have hi : i < k := by
    have := (List.getElem?_eq_some_iff.1 hv).1
    rwa [hk] at this
  have h1 : (j + 1) * k ≤ l.length * k := Nat.mul_le_mul_right _ hj
  rw [Nat.add_mul, Nat.one_mul] at h1
  have := hc (j * k + i) (by omega)
  rw [Nat.add_assoc, this]
  simp only [flat_get hk l j i hj hi, hv, Option.getD_some]
/-- A load of an element, as the walk asks for it. -/
theorem Row.load {P : Program} {w : World} {B : Nat} {A : Option Addr} {l : List α} (h : Row enc k w B A l) (hk : ∀ x, (enc x).length = k) (h0 : 0 < k) {ty : TypeId} {d : TypeDesc} (hu : P.underlying ty = some d) (hd : d.isRow = true) (hi : (P.info? ty).map (·.size) = some k) {j : Nat} (hj : j < l.length) :
    ∃ b off, A = some ⟨b, off, none⟩ ∧ b < B ∧ ∀ q, Sem.run P (loadVar ty ⟨b, off + j * k, none⟩) (w.drewN q) = .ok (.agg (enc l[j]).toArray) (w.drewN q) := by
  obtain ⟨b, off, e, hb, hc⟩ := h.elem hk h0 hj
  exact ⟨b, off, e, hb, fun q => run_loadVar_mid _ b _ ty (enc l[j]) d (fun i v hv => hc i v hv) hu hd (by rw [hk]; exact hi)⟩
end

/-- A load of an element in a region that only reads. -/
theorem wpQuiet_load_mid {P : Program} {ops : Array Oper} {C : World → Prop} {Q : Act → Prop} {rest : List Oper} {o : Oper} {a : Act} (hw : Region.wanted o (yielded ops a.tmps) = true) (ty : TypeId) (x : Operand) (ho : o.op = .load ty x)
    (b off : Nat) (hx : a.eval x = .pointer (some ⟨b, off, none⟩)) (v : Value) (hl : ∀ w, C w → (loadVar ty ⟨b, off, none⟩).run P w = .ok v w) (h : wpQuiet P ops C Q rest (a.put o.dst v)) : wpQuiet P ops C Q (o :: rest) a := by
  unfold wpQuiet
  rw [if_pos hw]
  refine ⟨v, fun w hC => ?_, h⟩
  unfold Oper.quietAt execOp
  simp [ho, hx, Instr.loadAt, Instr.sureAddr, hl w hC, Oper.quietUpon]

/-! ### '!=' and '==' -/
theorem part_key (cs : List Value) (o : Nat) (w : World) : (part 28 cs.toArray o).run Tryd.prog w = .ok (.agg ((cs.drop o).take 32).toArray) w := by
  have h1 : (isAgg 28).run Tryd.prog w = .ok true w := Tryd.isAgg28 w
  have h2 : (sizeOf 28).run Tryd.prog w = .ok 32 w := Tryd.sizeOf28 w
  simp [part, h1, h2]
theorem equal_key (d : Nat) (a b : Key32) (w : World) : (Op.equalIn (d + 2) 28 (.agg (encK a).toArray) (.agg (encK b).toArray)).run Tryd.prog w = .ok (decide (a = b)) w := by
  obtain ⟨i, hi⟩ := Option.isSome_iff_exists.1 (show (Tryd.prog.info? 5).isSome = true by kernel_rfl)
  have := equal_nrow (w := w) (k := .u8) Tryd.underlying28 Tryd.underlying5 (by kernel_rfl) hi d a.2 b.2
  rw [show decide (a = b) = decide (a.1 = b.1) by simp [Subtype.ext_iff]]
  exact this
theorem neK (a b : Key32) (w : World) : (binOp .neq 28 (.agg (encK a).toArray) (.agg (encK b).toArray)).run Tryd.prog w = .ok (.bool (!decide (a = b))) w := by
  rw [run_neq_struct, equal_key 9998]
  rfl
theorem eqK (a b : Key32) (w : World) : (binOp .eql 28 (.agg (encK a).toArray) (.agg (encK b).toArray)).run Tryd.prog w = .ok (.bool (decide (a = b))) w := by
  rw [run_eql_struct, equal_key 9998]
  rfl
theorem guK (op : BinOp) (x y : Operand) (a b : Array Value) (w : World) : (eqGuard op 28 x y (.agg a) (.agg b)).run Tryd.prog w = .ok () w := run_eqGuard_agg w op _ x y a b (by kernel_rfl)
theorem equal_part (a b : PartT) (w : World) : (Op.equalIn 10000 47 (.agg (encP a).toArray) (.agg (encP b).toArray)).run Tryd.prog w = .ok (decide (a = b)) w := by
  have hS : Tryd.prog.underlying 47 = some (.struct (Tryd.prog.fieldsOf 47)) := by kernel_rfl
  have hp : Tryd.prog.stoodInHeld 47 = false := by kernel_rfl
  have h1 : ∀ x : PartT, ((encP x).drop 0).take 32 = encK x.1 := fun x => by simp [encP, encK, u8s, x.1.2]
  have h2 : ∀ x : PartT, (encP x).toArray[32]? = some (.int .u64 (x.2 : Int)) := fun x => by simp [encP, u8s, x.1.2]
  have h3 : ∀ x : PartT, (part 45 (encP x).toArray 32).run Tryd.prog w = .ok (.int .u64 (x.2 : Int)) w := fun x => run_part_plain w (by kernel_rfl) (h2 x)
  rw [show (10000 : Nat) = 9999 + 1 from rfl, run_equalIn_agg w 9999 _ _ _ hS hp]
  simp only [Program.fieldsOf, Tryd.underlying47, Op.eqFields]
  have hk : (Op.equalIn 9999 28 (.agg (encK a.1).toArray) (.agg (encK b.1).toArray)).run Tryd.prog w = .ok (decide (a.1 = b.1)) w := equal_key 9997 a.1 b.1 w
  have hz : (Op.equalIn 9999 45 (.int .u64 (a.2 : Int)) (.int .u64 (b.2 : Int))).run Tryd.prog w = .ok ((a.2 : Int) == (b.2 : Int)) w := run_equalIn_int w 9998 45 .u64 .u64 _ _ Tryd.underlying45
  rw [if_pos (by decide : "Key" ≠ "_"), if_pos (by decide : "Size" ≠ "_")]
  have e1 : decide (a = b) = (decide (a.1 = b.1) && decide (a.2 = b.2)) := by simp [Prod.ext_iff]
  have e2 : ((a.2 : Int) == (b.2 : Int)) = decide (a.2 = b.2) := by rw [Bool.eq_iff_iff, beq_iff_eq, decide_eq_true_iff]; omega
  rw [e1]
  rw [e2] at hz
  generalize decide (a.1 = b.1) = B1 at hk ⊢
  generalize decide (a.2 = b.2) = B2 at hz ⊢
  simp only [Sem.run_bind, part_key, h1, h3, hk, Result.andThen_ok]
  cases B1
  · simp
  · simp only [Bool.not_true, Bool.false_eq_true, if_false, Sem.run_bind, h3, hz, Result.andThen_ok]
    cases B2 <;> simp
theorem neP (a b : PartT) (w : World) : (binOp .neq 47 (.agg (encP a).toArray) (.agg (encP b).toArray)).run Tryd.prog w = .ok (.bool (!decide (a = b))) w := by
  rw [run_neq_struct, equal_part]
  rfl
theorem eqP (a b : PartT) (w : World) : (binOp .eql 47 (.agg (encP a).toArray) (.agg (encP b).toArray)).run Tryd.prog w = .ok (.bool (decide (a = b))) w := by
  rw [run_eql_struct, equal_part]
  rfl
theorem guP (op : BinOp) (x y : Operand) (a b : Array Value) (w : World) : (eqGuard op 47 x y (.agg a) (.agg b)).run Tryd.prog w = .ok () w := run_eqGuard_agg w op _ x y a b (by kernel_rfl)

theorem bytes_eq (a b : ByteArray) : (a.toList == b.toList) = decide (a = b) := by
  rw [Bool.eq_iff_iff, beq_iff_eq, decide_eq_true_iff, ByteArray.toList_eq, ByteArray.toList_eq]
  obtain ⟨⟨x⟩⟩ := a
  obtain ⟨⟨y⟩⟩ := b
  simp
theorem equal_item (a b : ItemT) (w : World) : (Op.equalIn 10000 50 (.agg (encI a).toArray) (.agg (encI b).toArray)).run Tryd.prog w = .ok (decide (a = b)) w := by
  have hS : Tryd.prog.underlying 50 = some (.struct (Tryd.prog.fieldsOf 50)) := by kernel_rfl
  have hp : Tryd.prog.stoodInHeld 50 = false := by kernel_rfl
  have h1 : ∀ x : ItemT, ((encI x).drop 3).take 32 = encK x.2.2.2 := fun x => by simp only [encI, encK, List.cons_append, List.nil_append, List.drop_succ_cons, List.drop_zero]; exact List.take_of_length_le (by simp [u8s, x.2.2.2.2])
  have h2 : ∀ x : ItemT, (part 9 (encI x).toArray 0).run Tryd.prog w = .ok (.string x.1) w := fun x => run_part_plain w (by kernel_rfl) (by simp [encI])
  have h3 : ∀ x : ItemT, (part 48 (encI x).toArray 1).run Tryd.prog w = .ok (.int .u8 (x.2.1 : Int)) w := fun x => run_part_plain w (by kernel_rfl) (by simp [encI])
  have h4 : ∀ x : ItemT, (part 45 (encI x).toArray 2).run Tryd.prog w = .ok (.int .u64 (x.2.2.1 : Int)) w := fun x => run_part_plain w (by kernel_rfl) (by simp [encI])
  rw [show (10000 : Nat) = 9999 + 1 from rfl, run_equalIn_agg w 9999 _ _ _ hS hp]
  simp only [Program.fieldsOf, Tryd.underlying50, Op.eqFields]
  have hs : (Op.equalIn 9999 9 (.string a.1) (.string b.1)).run Tryd.prog w = .ok (a.1.toList == b.1.toList) w := run_equalIn_string w 9998 9 _ _ Tryd.underlying9
  have hm : (Op.equalIn 9999 48 (.int .u8 (a.2.1 : Int)) (.int .u8 (b.2.1 : Int))).run Tryd.prog w = .ok ((a.2.1 : Int) == (b.2.1 : Int)) w := run_equalIn_int w 9998 48 .u8 .u8 _ _ Tryd.underlying48
  have hz : (Op.equalIn 9999 45 (.int .u64 (a.2.2.1 : Int)) (.int .u64 (b.2.2.1 : Int))).run Tryd.prog w = .ok ((a.2.2.1 : Int) == (b.2.2.1 : Int)) w := run_equalIn_int w 9998 45 .u64 .u64 _ _ Tryd.underlying45
  have hk : (Op.equalIn 9999 28 (.agg (encK a.2.2.2).toArray) (.agg (encK b.2.2.2).toArray)).run Tryd.prog w = .ok (decide (a.2.2.2 = b.2.2.2)) w := equal_key 9997 a.2.2.2 b.2.2.2 w
  rw [if_pos (by decide : "Name" ≠ "_"), if_pos (by decide : "Mode" ≠ "_"), if_pos (by decide : "Size" ≠ "_"), if_pos (by decide : "Key" ≠ "_")]
  have e1 : decide (a = b) = (decide (a.1 = b.1) && decide (a.2.1 = b.2.1) && decide (a.2.2.1 = b.2.2.1) && decide (a.2.2.2 = b.2.2.2)) := by simp [Prod.ext_iff, Bool.and_assoc]
  have e2 : ((a.2.1 : Int) == (b.2.1 : Int)) = decide (a.2.1 = b.2.1) := by rw [Bool.eq_iff_iff, beq_iff_eq, decide_eq_true_iff]; omega
  have e3 : ((a.2.2.1 : Int) == (b.2.2.1 : Int)) = decide (a.2.2.1 = b.2.2.1) := by rw [Bool.eq_iff_iff, beq_iff_eq, decide_eq_true_iff]; omega
  rw [e1]
  rw [e2] at hm
  rw [e3] at hz
  rw [bytes_eq] at hs
  generalize decide (a.1 = b.1) = B1 at hs ⊢
  generalize decide (a.2.1 = b.2.1) = B2 at hm ⊢
  generalize decide (a.2.2.1 = b.2.2.1) = B3 at hz ⊢
  generalize decide (a.2.2.2 = b.2.2.2) = B4 at hk ⊢
  simp only [Sem.run_bind, h2, hs, Result.andThen_ok]
  cases B1
  · simp
  · simp only [Bool.not_true, Bool.false_eq_true, if_false, Sem.run_bind, h3, hm, Result.andThen_ok]
    cases B2
    · simp
    · simp only [Bool.not_true, Bool.false_eq_true, if_false, Sem.run_bind, h4, hz, Result.andThen_ok]
      cases B3
      · simp
      · simp only [Bool.not_true, Bool.false_eq_true, if_false, Sem.run_bind, part_key, h1, hk, Result.andThen_ok]
        cases B4 <;> simp
theorem neI (a b : ItemT) (w : World) : (binOp .neq 50 (.agg (encI a).toArray) (.agg (encI b).toArray)).run Tryd.prog w = .ok (.bool (!decide (a = b))) w := by
  rw [run_neq_struct, equal_item]
  rfl
theorem eqI (a b : ItemT) (w : World) : (binOp .eql 50 (.agg (encI a).toArray) (.agg (encI b).toArray)).run Tryd.prog w = .ok (.bool (decide (a = b))) w := by
  rw [run_eql_struct, equal_item]
  rfl
theorem guI (op : BinOp) (x y : Operand) (a b : Array Value) (w : World) : (eqGuard op 50 x y (.agg a) (.agg b)).run Tryd.prog w = .ok () w := run_eqGuard_agg w op _ x y a b (by kernel_rfl)
end Go.Proofs.YtkjndgapejbgcaaDoor
