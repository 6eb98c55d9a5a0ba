/- A list of keys that came in. -/
import Derived.Test.YtlolnpilpdkbkaaKyK
import Derived.Test.YtlolnpilpdkbkaaArgs
import Derived.Test.YtlolnpilpdkbkaaBulk
import Derived.ProofKit
import Derived.OpenShut
namespace Go.Proofs.Ytlolnpilpdkbkaa
open Go.RowKit Go.ChangeShapes Go.WideShapes
set_option linter.unusedVariables false
section
variable {H : Type} {enc : TypeId × Value → H} {W : World} {base : Nat} {spare : Nat → Bool} {held : Bool}
/-- An array of bytes: its numbers. -/
theorem cells_keyA {P : Program} {t e : TypeId} {n fuel : Nat} {cs : List Value} {x : DataW H × List MemPlace} (ht : P.underlying t = some (.array n e)) (he : P.underlying e = some (.int .u8)) (hc : P.cellsOf e = 1) (hl : P.cellsOf t = n)
    (h : DataW.trod enc P W base spare held fuel t cs = some x) : ∃ l : List Nat, cs = u8s l ∧ l.length = n ∧ ∀ b ∈ l, b < 256 := by
  obtain ⟨xs, m, _, _, hcl, hxl, hg⟩ := DataW.trod_array ht h
  rw [hl] at hcl
  have h1 : ∀ i, i < n → ∃ b : Nat, cs[i]? = some (.int .u8 (b : Int)) ∧ b < 256 := fun i hi => by
    have hg1 := hg i hi
    rw [hc, Nat.mul_one, List.getElem?_eq_getElem (by omega), List.drop_eq_getElem_cons (by omega)] at hg1
    simp only [List.take_succ_cons, List.take_zero] at hg1
    obtain ⟨b, hb, hlt⟩ := cell_u8 he hg1
    exact ⟨b, by rw [List.getElem?_eq_getElem (by omega), hb], hlt⟩
  obtain ⟨l, rfl, hb⟩ := all_u8s cs fun i hi => h1 i (by omega)
  rw [u8s_length] at hcl
  exact ⟨l, rfl, hcl, hb⟩
set_option maxRecDepth 100000 in
theorem arg_keys {b0 : Nat} {v : Value} {d : DataW H} {ps : List MemPlace} (o : Value.okWide Try.prog W .any b0 34 v) (h : DataW.Trod enc Try.prog W base spare held 34 v d ps) :
    ∃ A n c xs, v = .slice A n c ∧ xs.length = n ∧ KeyRow W A xs ∧ Held d n := by
  have kkk : Try.prog.cellsOf 25 = 32 := by kernel_rfl
  have kku : Try.prog.cellsOf 5 = 1 := by kernel_rfl
  obtain ⟨A, len, cap, V, rfl, hlc, hcm, hrd, hheld, n, h5⟩ := arg_slice_v (size := 32) Try.underlying34 kkk (by decide) o h
  have h6 : ∀ i, i < len → ∃ z : List Nat, ((List.range 32).map fun j => V (i * 32 + j)) = u8s z ∧ IsK z := fun i hi => by
    obtain ⟨y, hy⟩ := h5 i hi
    obtain ⟨l, e1, e2, e3⟩ := cells_keyA Try.underlying25 Try.underlying5 kku kkk hy
    exact ⟨l, e1, e2, e3⟩
  have h7 : ∃ xs : List (List Nat), xs.length = len ∧ ∀ i, i < len → ∃ z, xs[i]? = some z ∧ ((List.range 32).map fun j => V (i * 32 + j)) = u8s z ∧ IsK z := by
    clear hrd h5 hheld hlc hcm o h
    induction len with
    | zero => exact ⟨[], rfl, fun i hi => absurd hi (by omega)⟩
    | succ k ih =>
      obtain ⟨xs, hl, hz⟩ := ih fun i hi => h6 i (by omega)
      obtain ⟨z, hzz⟩ := h6 k (by omega)
      refine ⟨xs ++ [z], by simp [hl], fun i hi => ?_⟩
      by_cases hik : i < k
      · obtain ⟨z', h', r'⟩ := hz i hik
        exact ⟨z', by rw [List.getElem?_append_left (by omega)]; exact h', r'⟩
      · obtain rfl : i = k := by omega
        exact ⟨z, by simp [← hl], hzz⟩
  obtain ⟨xs, hxl, hz⟩ := h7
  refine ⟨A, len, cap, xs, rfl, hxl, fun k z hk => ?_, hheld⟩
  have hkl : k < len := by
    have := (List.getElem?_eq_some_iff.1 hk).1
    omega
  obtain ⟨z', e1, e2, e3⟩ := hz k hkl
  rw [hk] at e1
  cases e1
  obtain ⟨b, off, rfl, hb, hc⟩ := hrd (by omega)
  refine ⟨e3, b, off, rfl, hb, fun j v hv => ?_⟩
  rw [← e2] at hv
  have hj : j < 32 := by
    have := (List.getElem?_eq_some_iff.1 hv).1
    simpa using this
  rw [List.getElem?_map, List.getElem?_range hj] at hv
  simp only [Option.map_some, Option.some.injEq] at hv
  have := hc (k * 32 + j) (by omega)
  rw [Nat.add_assoc, this, hv]
end
end Go.Proofs.Ytlolnpilpdkbkaa
