/- Arguments opened, the elements' data at hand too. No program is named here. -/
import Derived.Test.YtnjbpacnmiimlaaDoorArgs
namespace Go.Proofs.YtnjbpacnmiimlaaDoor
open Go.RowKit Go.ChangeShapes Go.WideShapes

/-- The elements' data of a slice. -/
def Elems {H : Type} (d : DataW H) (Ds : List (DataW H)) : Prop := (d = .nil ∧ Ds = []) ∨ ∃ sp, d = .slice Ds sp

section
variable {H : Type} {enc : TypeId × Value → H} {P : Program} {W : World} {base : Nat} {spare : Nat → Bool} {held : Bool}
theorem Elems.held_ {d : DataW H} {Ds : List (DataW H)} (h : Elems d Ds) : Held d Ds.length := by
  rcases h with ⟨rfl, rfl⟩ | ⟨sp, rfl⟩
  · exact .inl ⟨rfl, rfl⟩
  · exact .inr ⟨_, _, rfl, rfl⟩

theorem arg_slice_d {t e : TypeId} {size fuel : Nat} {cs : List Value} {x : DataW H × List MemPlace} (ht : P.underlying t = some (.slice e)) (hc : P.cellsOf e = size) (hs : 0 < size)
    (h : DataW.trod enc P W base spare held fuel t cs = some x) :
    ∃ (A : Option Addr) (len cap : Nat) (V : Nat → Value) (Ds : List (DataW H)), cs = [.slice A len cap] ∧ len ≤ cap ∧ cap ≤ maxLen ∧ Rd W W.heap.size A (len * size) V ∧ Ds.length = len ∧ Elems x.1 Ds ∧
      ∃ n, ∀ i, i < len → ∃ pl, DataW.trod enc P W base spare held n e ((List.range size).map fun j => V (i * size + j)) = some (Ds[i]?.getD .nil, pl) := by
  rcases Go.Deep.open_slice ht h with ⟨rfl, rfl⟩ | ⟨a, len, cap, m, n, D, Pl, rfl, hb, hl, hm, hmm, rfl, hx⟩
  · exact ⟨none, 0, 0, fun _ => undef, [], rfl, Nat.le_refl _, Nat.zero_le _, by rw [Nat.zero_mul]; exact Rd.empty, rfl, .inl ⟨rfl, rfl⟩, 0, fun i hi => absurd hi (by omega)⟩
  · have hlm : len ≤ m := by rw [hmm]; split <;> omega
    refine ⟨some a, len, cap, fun j => (W.cell? (a.add j)).getD undef, (List.range len).map D, rfl, hl, hm, ?_, by simp, .inr ⟨_, rfl⟩, n, ?_⟩
    · intro hp
      obtain ⟨b, off, spot⟩ := a
      have cellAt : ∀ j, j < len * size → ∃ u, W.cell? ((⟨b, off, spot⟩ : Addr).add j) = some u := by
        intro j hj
        obtain ⟨cs', hcs, hr⟩ := hx (j / size) (Nat.lt_of_lt_of_le (Nat.div_lt_of_lt_mul (by rwa [Nat.mul_comm] at hj)) hlm)
        rw [hc] at hcs
        obtain ⟨_, hcl, hat⟩ := World.cells?_some hcs
        have hmod : j % size < size := Nat.mod_lt _ hs
        have h1 := hat (j % size) hmod
        rw [Go.Deep.add_add, Nat.mul_comm, Nat.div_add_mod] at h1
        exact ⟨_, h1.trans (List.getElem?_eq_getElem (by omega))⟩
      obtain ⟨u0, hu0⟩ := cellAt 0 hp
      have hspot : spot = none := by simpa [Addr.add] using World.cell?_spot hu0
      subst hspot
      refine ⟨b, off, rfl, ?_, fun j hj => ?_⟩
      · have := World.block_lt_of_cell? _ _ hu0
        simpa [Addr.add] using this
      · obtain ⟨u, hu⟩ := cellAt j hj
        rw [Addr.add_lit] at hu
        simp only [Addr.add_lit, hu, Option.getD_some]
    · intro i hi
      obtain ⟨cs', hcs, hr⟩ := hx i (by omega)
      rw [hc] at hcs
      obtain ⟨_, hcl, hat⟩ := World.cells?_some hcs
      refine ⟨Pl i, ?_⟩
      have e1 : (((List.range len).map D)[i]?.getD .nil) = D i := by simp [hi]
      rw [e1, ← hr]
      congr 1
      apply List.ext_getElem
      · simp [hcl]
      · intro j hj hj2
        have h1 := hat j (by simpa using hj)
        rw [Go.Deep.add_add] at h1
        simp [h1, List.getElem?_eq_getElem hj2]

/-- A slice of elements of size cells each, each of one form: f z its cells. -/
theorem cell_slice_d {α : Type} (f : α → List Value) {ok : α → DataW H → Prop} {t e : TypeId} {size fuel : Nat} {cs : List Value} {y : DataW H × List MemPlace} (ht : P.underlying t = some (.slice e)) (hc : P.cellsOf e = size) (hs : 0 < size)
    (hf : ∀ n c y, DataW.trod enc P W base spare held n e c = some y → c.length = size → ∃ z, c = f z ∧ ok z y.1) (z0 : α)
    (h : DataW.trod enc P W base spare held fuel t cs = some y) :
    ∃ (A : Option Addr) (cap : Nat) (zs : List α) (Ds : List (DataW H)), cs = [.slice A zs.length cap] ∧ zs.length ≤ cap ∧ cap ≤ maxLen ∧ Rd W W.heap.size A (zs.length * size) (fun j => (f (zs[j / size]?.getD z0))[j % size]?.getD undef) ∧ Ds.length = zs.length ∧ Elems y.1 Ds ∧
      ∀ i, i < zs.length → ok (zs[i]?.getD z0) (Ds[i]?.getD .nil) := by
  obtain ⟨A, len, cap, V, Ds, hcs, h1, h2, h3, h4, hE, n, h5⟩ := arg_slice_d ht hc hs h
  subst hcs
  have h6 : ∀ i, i < len → ∃ z, ((List.range size).map fun j => V (i * size + j)) = f z ∧ ok z (Ds[i]?.getD .nil) := fun i hi => by
    obtain ⟨pl, hy⟩ := h5 i hi
    exact hf n _ _ hy (by simp)
  have h7 : ∃ zs : List α, zs.length = len ∧ ∀ i, i < len → ((List.range size).map fun j => V (i * size + j)) = f (zs[i]?.getD z0) ∧ ok (zs[i]?.getD z0) (Ds[i]?.getD .nil) := by
    clear h1 h3 h4 h5 h hE
    induction len with
    | zero => exact ⟨[], rfl, fun i hi => absurd hi (by omega)⟩
    | succ k ih =>
      obtain ⟨zs, hl, hz⟩ := ih fun i hi => h6 i (by omega)
      obtain ⟨z, hzz⟩ := h6 k (by omega)
      refine ⟨zs ++ [z], by simp [hl], fun i hi => ?_⟩
      by_cases hik : i < k
      · rw [List.getElem?_append_left (by omega)]
        exact hz i hik
      · obtain rfl : i = k := by omega
        rw [show (zs ++ [z])[i]? = some z by simp [← hl]]
        exact hzz
  obtain ⟨zs, rfl, hz⟩ := h7
  refine ⟨A, cap, zs, Ds, rfl, h1, h2, ?_, h4, hE, fun i hi => (hz i hi).2⟩
  refine h3.congr fun j hj => ?_
  have hq : j / size < zs.length := Nat.div_lt_of_lt_mul (by rwa [Nat.mul_comm] at hj)
  have hm : j % size < size := Nat.mod_lt _ hs
  rw [← (hz _ hq).1]
  simp only [List.getElem?_map, List.getElem?_range hm, Option.map_some, Option.getD_some]
  congr 1
  have := Nat.div_add_mod j size
  rw [Nat.mul_comm] at this
  exact this.symm
end
end Go.Proofs.YtnjbpacnmiimlaaDoor
