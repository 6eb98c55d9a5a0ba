/- Rows of keys. -/
import Derived.Test.YtgjokkjmljdmbaaKyK
import Derived.Great.Walk
namespace Go.Proofs.Ytgjokkjmljdmbaa
open Go.RowKit Go.Maps
set_option linter.unusedSimpArgs false
set_option linter.unusedVariables false

def rowsK (l : List (List Nat)) : List Value := l.flatMap u8s
theorem rowsK_append (a b : List (List Nat)) : rowsK (a ++ b) = rowsK a ++ rowsK b := by simp [rowsK]
theorem rowsK_one (x : List Nat) : rowsK [x] = u8s x := by simp [rowsK]
theorem rowsK_length : ∀ {l : List (List Nat)}, (∀ x ∈ l, x.length = 32) → (rowsK l).length = l.length * 32
  | [], _ => by simp [rowsK]
  | x :: l, h => by
    have := rowsK_length (l := l) fun y hy => h y (by simp [hy])
    simp only [rowsK, List.flatMap_cons, List.length_append, u8s_length, h x (by simp), List.length_cons] at this ⊢
    omega
theorem rowsK_get : ∀ {l : List (List Nat)}, (∀ x ∈ l, x.length = 32) → ∀ {j i : Nat} {x : List Nat}, l[j]? = some x → i < 32 → (rowsK l)[j * 32 + i]? = (u8s x)[i]?
  | [], _, j, i, x, h, _ => by simp at h
  | y :: l, hl, 0, i, x, h, hi => by
    simp only [List.getElem?_cons_zero, Option.some.injEq] at h
    subst h
    simp only [rowsK, List.flatMap_cons, Nat.zero_mul, Nat.zero_add]
    rw [List.getElem?_append_left (by rw [u8s_length, hl y (by simp)]; exact hi)]
  | y :: l, hl, j + 1, i, x, h, hi => by
    have hy := hl y (by simp)
    have := rowsK_get (l := l) (fun z hz => hl z (by simp [hz])) (j := j) (i := i) (x := x) (by simpa using h) hi
    simp only [rowsK, List.flatMap_cons] at this ⊢
    rw [List.getElem?_append_right (by rw [u8s_length, hy]; omega), u8s_length, hy, ← this]
    congr 1
    omega
theorem elK : ElemOk Try.prog 32 29 (.agg (u8s (zeros 32)).toArray) 32 32 := ⟨Try.underlying32, by kernel_rfl, by simp [Value.cells, u8s, zeros], by decide⟩
/-- A key of a row that the call owns. -/
theorem ownK_at {w : World} {B n c : Nat} {A : Option Addr} {l : List (List Nat)} (h : Own w B 29 32 A n c (rowsK l)) (hl : ∀ x ∈ l, x.length = 32) {j : Nat} {x : List Nat} (hj : l[j]? = some x) :
    ∃ b off, A = some ⟨b, off, none⟩ ∧ b < w.heap.size ∧ w.rangeAt b (off + j * 32) (u8s x) := by
  have hjl := (List.getElem?_eq_some_iff.1 hj).1
  have hlen := h.len
  rw [rowsK_length hl] at hlen
  have hx : x.length = 32 := hl x (List.mem_of_getElem? hj)
  obtain ⟨b, off, e, hb, hc⟩ := h.rd (by omega)
  refine ⟨b, off, e, hb, fun i v hv => ?_⟩
  have hi : i < 32 := by
    have := (List.getElem?_eq_some_iff.1 hv).1
    rwa [u8s_length, hx] at this
  have h1 := hc (j * 32 + i) (by omega)
  rw [Nat.add_assoc, h1]
  show some ((rowsK l)[j * 32 + i]?.getD undef) = some v
  rw [rowsK_get hl hj hi, hv, Option.getD_some]
theorem ownK_len {w : World} {B n c : Nat} {A : Option Addr} {l : List (List Nat)} (h : Own w B 29 32 A n c (rowsK l)) (hl : ∀ x ∈ l, x.length = 32) : l.length = n := by
  have := h.len
  rw [rowsK_length hl] at this
  omega
theorem builtKL (a0 a1 a2 a3 a4 a5 a6 a7 a8 a9 a10 a11 a12 a13 a14 a15 a16 a17 a18 a19 a20 a21 a22 a23 a24 a25 a26 a27 a28 a29 a30 a31 : Nat) : Try.prog.builtSlice 29 1 [(0, .agg (u8s [a0, a1, a2, a3, a4, a5, a6, a7, a8, a9, a10, a11, a12, a13, a14, a15, a16, a17, a18, a19, a20, a21, a22, a23, a24, a25, a26, a27, a28, a29, a30, a31]).toArray)] = some (u8s [a0, a1, a2, a3, a4, a5, a6, a7, a8, a9, a10, a11, a12, a13, a14, a15, a16, a17, a18, a19, a20, a21, a22, a23, a24, a25, a26, a27, a28, a29, a30, a31]).toArray := by kernel_rfl
theorem builtK (x : List Nat) (hx : x.length = 32) : Try.prog.builtSlice 29 1 [(0, .agg (u8s x).toArray)] = some (u8s x).toArray := by
  match x, hx with
  | [a0, a1, a2, a3, a4, a5, a6, a7, a8, a9, a10, a11, a12, a13, a14, a15, a16, a17, a18, a19, a20, a21, a22, a23, a24, a25, a26, a27, a28, a29, a30, a31], _ => exact builtKL a0 a1 a2 a3 a4 a5 a6 a7 a8 a9 a10 a11 a12 a13 a14 a15 a16 a17 a18 a19 a20 a21 a22 a23 a24 a25 a26 a27 a28 a29 a30 a31
end Go.Proofs.Ytgjokkjmljdmbaa
