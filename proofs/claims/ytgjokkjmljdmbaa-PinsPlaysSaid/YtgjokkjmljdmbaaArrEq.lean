/- Arrays of numbers, compared. No program is named here. -/
import Derived.Test.YtgjokkjmljdmbaaBase
import Derived.DeepKeys2
import Derived.Laws.StructEq
namespace Go.Proofs.Ytgjokkjmljdmbaa
open Go.RowKit

section
variable {P : Program} {w : World} {t e : TypeId} {k : IntKind} {n : Nat}
/-- An array's numbers. -/
def nrow (k : IntKind) (l : List Nat) : Array Value := (l.map fun b : Nat => Value.int k (b : Int)).toArray
theorem nrow_get {l : List Nat} {i : Nat} (h : i < l.length) : (nrow k l)[i]? = some (.int k ((l[i]?.getD 0 : Nat) : Int)) := by simp [nrow, h]
theorem eqItems_nrow (he : P.underlying e = some (.int k)) (d : Nat) {l l' : List Nat} (is : List Nat) (h : ∀ i ∈ is, i < l.length ∧ i < l'.length) :
    (Op.eqItems (d + 1) e 1 (nrow k l) (nrow k l') is).run P w = .ok (is.all fun i => l[i]?.getD 0 == l'[i]?.getD 0) w := by
  induction is with
  | nil => simp [Op.eqItems]
  | cons i is ih =>
    obtain ⟨h1, h2⟩ := h i (by simp)
    have hp : P.plainKey e = true := by simp [Program.plainKey, he]
    simp only [Op.eqItems, Sem.run_bind, Nat.mul_one, run_part_plain w hp (nrow_get h1), run_part_plain w hp (nrow_get h2), Result.andThen_ok, run_equalIn_int w d e k k _ _ he, List.all_cons]
    have hh : (((l[i]?.getD 0 : Nat) : Int) == ((l'[i]?.getD 0 : Nat) : Int)) = (l[i]?.getD 0 == l'[i]?.getD 0) := by
      rw [Bool.eq_iff_iff, beq_iff_eq, beq_iff_eq]; omega
    rw [hh]
    cases hb : (l[i]?.getD 0 == l'[i]?.getD 0)
    · simp
    · simpa using ih fun j hj => h j (by simp [hj])
theorem all_eq {l l' : List Nat} (h1 : l.length = n) (h2 : l'.length = n) : ((List.range n).all fun i => l[i]?.getD 0 == l'[i]?.getD 0) = decide (l = l') := by
  rw [Bool.eq_iff_iff, List.all_eq_true, decide_eq_true_iff]
  constructor
  · intro h
    apply List.ext_getElem (by omega)
    intro i hi hi2
    have := h i (List.mem_range.2 (by omega))
    simpa [hi, hi2] using this
  · rintro rfl i _
    simp
theorem equal_nrow (hu : P.underlying t = some (.array n e)) (he : P.underlying e = some (.int k)) (hc : P.cellsOf e = 1) {i : TypeInfo} (hi : P.info? e = some i) (d : Nat) {l l' : List Nat} (h1 : l.length = n) (h2 : l'.length = n) :
    (Op.equalIn (d + 2) t (.agg (nrow k l)) (.agg (nrow k l'))).run P w = .ok (decide (l = l')) w := by
  rw [run_equalIn_array w (d + 1) _ _ hu hi, hc, eqItems_nrow he d (List.range n) (fun i hi => by simp at hi; omega), all_eq h1 h2]
theorem eql_nrow (hu : P.underlying t = some (.array n e)) (he : P.underlying e = some (.int k)) (hc : P.cellsOf e = 1) {i : TypeInfo} (hi : P.info? e = some i) {l l' : List Nat} (h1 : l.length = n) (h2 : l'.length = n) :
    (binOp .eql t (.agg (nrow k l)) (.agg (nrow k l'))).run P w = .ok (.bool (decide (l = l'))) w := by
  rw [run_eql_struct, equal_nrow hu he hc hi 9998 h1 h2]
  rfl
theorem neq_nrow (hu : P.underlying t = some (.array n e)) (he : P.underlying e = some (.int k)) (hc : P.cellsOf e = 1) {i : TypeInfo} (hi : P.info? e = some i) {l l' : List Nat} (h1 : l.length = n) (h2 : l'.length = n) :
    (binOp .neq t (.agg (nrow k l)) (.agg (nrow k l'))).run P w = .ok (.bool (!decide (l = l'))) w := by
  rw [run_neq_struct, equal_nrow hu he hc hi 9998 h1 h2]
  rfl
end
end Go.Proofs.Ytgjokkjmljdmbaa
