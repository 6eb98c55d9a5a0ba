/- A list of keys, in a row; as an argument. -/
import Derived.Test.YtlghgfnkckaebaaOwn2
import Derived.Test.YtlghgfnkckaebaaArgs
import Derived.Deep.MidRow
namespace Go.Proofs.Ytlghgfnkckaebaa
open Go.RowKit
set_option linter.unusedSimpArgs false
set_option linter.unusedVariables false

structure KeyRow (w : World) (A : Option Addr) (n : Nat) (ks : Nat → List Nat) : Prop where
  len : ∀ i, i < n → (ks i).length = 32
  lt : ∀ i, i < n → ∀ x ∈ ks i, x < 256
  row : 0 < n → ∃ b off, A = some ⟨b, off, none⟩ ∧ b < w.heap.size ∧ ∀ i, i < n → w.rangeAt b (off + i * 32) (u8s (ks i))
theorem KeyRow.below {w w' : World} {A : Option Addr} {n : Nat} {ks : Nat → List Nat} (h : KeyRow w A n ks) (hb : Below w.heap.size w w') : KeyRow w' A n ks :=
  ⟨h.len, h.lt, fun hn => by
    obtain ⟨b, off, e, hl, hr⟩ := h.row hn
    exact ⟨b, off, e, Nat.lt_of_lt_of_le hl hb.size, fun i hi j v hv => (hb.cell (p := ⟨b, off + i * 32 + j, none⟩) hl).trans (hr i hi j v hv)⟩⟩
theorem kall_u8 : ∀ cs : List Value, (∀ i, i < cs.length → ∃ b : Nat, cs[i]? = some (.int .u8 (b : Int)) ∧ b < 256) → ∃ l : List Nat, cs = u8s l ∧ ∀ b ∈ l, b < 256
  | [], _ => ⟨[], rfl, by simp⟩
  | c :: cs, h => by
    obtain ⟨b, hb, hlt⟩ := h 0 (by simp)
    obtain ⟨l, rfl, hl⟩ := kall_u8 cs fun i hi => by simpa using h (i + 1) (by simpa using hi)
    simp only [List.getElem?_cons_zero, Option.some.injEq] at hb
    refine ⟨b :: l, by rw [hb]; rfl, ?_⟩
    intro x hx
    rcases List.mem_cons.1 hx with rfl | hx
    · exact hlt
    · exact hl x hx
section
variable {H : Type} {enc : TypeId × Value → H} {P : Program} {W : World} {base : Nat} {spare : Nat → Bool} {held : Bool}
theorem kcells_u8s {t e : TypeId} {n fuel : Nat} {cs : List Value} {x : DataW H × List MemPlace} (ht : P.underlying t = some (.array n e)) (he : P.underlying e = some (.int .u8)) (hc : P.cellsOf e = 1) (hl : P.cellsOf t = n)
    (h : DataW.trod enc P W base spare held fuel t cs = some x) : ∃ l : List Nat, cs = u8s l ∧ l.length = n ∧ ∀ b ∈ l, b < 256 := by
  obtain ⟨xs, m, _, _, hcl, hxl, hg⟩ := DataW.trod_array ht h
  rw [hl] at hcl
  have h1 : ∀ i, i < n → ∃ b : Nat, cs[i]? = some (.int .u8 (b : Int)) ∧ b < 256 := fun i hi => by
    have hg1 := hg i hi
    rw [hc, Nat.mul_one, List.getElem?_eq_getElem (by omega), List.drop_eq_getElem_cons (by omega)] at hg1
    simp only [List.take_succ_cons, List.take_zero] at hg1
    obtain ⟨b, hb, hlt⟩ := cell_u8 he hg1
    exact ⟨b, by rw [List.getElem?_eq_getElem (by omega), hb], hlt⟩
  obtain ⟨l, rfl, hb⟩ := kall_u8 cs fun i hi => h1 i (by omega)
  rw [u8s_length] at hcl
  exact ⟨l, rfl, hcl, hb⟩
/-- Rows read as keys. -/
theorem key_row {A : Option Addr} {n f : Nat} {V : Nat → Value} {t e : TypeId} (ht : P.underlying t = some (.array 32 e)) (he : P.underlying e = some (.int .u8)) (hc : P.cellsOf e = 1) (hl : P.cellsOf t = 32)
    (hr : Rd W W.heap.size A (n * 32) V) (hy : ∀ i, i < n → ∃ y, DataW.trod enc P W base spare held f t ((List.range 32).map fun j => V (i * 32 + j)) = some y) : ∃ ks, KeyRow W A n ks := by
  have h1 : ∀ i, i < n → ∃ l : List Nat, ((List.range 32).map fun j => V (i * 32 + j)) = u8s l ∧ l.length = 32 ∧ ∀ b ∈ l, b < 256 := fun i hi => by
    obtain ⟨y, hy⟩ := hy i hi
    exact kcells_u8s ht he hc hl hy
  have h2 : ∃ ks : Nat → List Nat, ∀ i, i < n → ((List.range 32).map fun j => V (i * 32 + j)) = u8s (ks i) ∧ (ks i).length = 32 ∧ ∀ b ∈ ks i, b < 256 :=
    ⟨fun i => if h : i < n then Classical.choose (h1 i h) else [], fun i hi => by simp only [hi, dif_pos]; exact Classical.choose_spec (h1 i hi)⟩
  obtain ⟨ks, hk⟩ := h2
  refine ⟨ks, fun i hi => (hk i hi).2.1, fun i hi => (hk i hi).2.2, fun hn => ?_⟩
  obtain ⟨b, off, e1, e2, e3⟩ := hr (Nat.mul_pos hn (by decide))
  refine ⟨b, off, e1, e2, fun i hi j v hv => ?_⟩
  have hj : j < 32 := by
    have := (List.getElem?_eq_some_iff.1 hv).1
    rw [u8s_length, (hk i hi).2.1] at this
    exact this
  rw [← (hk i hi).1] at hv
  simp [hj] at hv
  have := e3 (i * 32 + j) (by omega)
  rw [← hv, Nat.add_assoc]
  exact this
end
end Go.Proofs.Ytlghgfnkckaebaa
