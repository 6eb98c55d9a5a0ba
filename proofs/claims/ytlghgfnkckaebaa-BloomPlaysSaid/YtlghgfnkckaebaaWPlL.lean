/- BloomPlays: the argument opened. -/
import Derived.Test.YtlghgfnkckaebaaWPlX
import Derived.ProofKit
import Derived.OpenShut
namespace Go.Proofs.Ytlghgfnkckaebaa
open Go.RowKit Go.ChangeShapes Go.WideShapes
set_option linter.unusedSimpArgs false

theorem array5P {cs : Array Value} (h : cs.size = 5) : ∃ c0 c1 c2 c3 c4, cs = #[c0, c1, c2, c3, c4] := by
  obtain ⟨l⟩ := cs
  match l, h with
  | [c0, c1, c2, c3, c4], _ => exact ⟨c0, c1, c2, c3, c4, rfl⟩
theorem list5P {α : Type} {l : List α} (h : l.length = 5) : ∃ a b c d e, l = [a, b, c, d, e] := by
  match l, h with
  | [a, b, c, d, e], _ => exact ⟨a, b, c, d, e, rfl⟩
theorem list3P {α : Type} {l : List α} (h : l.length = 3) : ∃ a b c, l = [a, b, c] := by
  match l, h with
  | [a, b, c], _ => exact ⟨a, b, c, rfl⟩
theorem list2P {α : Type} {l : List α} (h : l.length = 2) : ∃ a b, l = [a, b] := by
  match l, h with
  | [a, b], _ => exact ⟨a, b, rfl⟩
theorem cut_atP {α : Type} (L : List α) (i n : Nat) : L.drop i = (L.drop i).take n ++ L.drop (i + n) := by
  have := List.take_append_drop n (L.drop i)
  rw [List.drop_drop] at this
  exact this.symm
section
variable {H : Type} {enc : TypeId × Value → H} {W : World} {base : Nat} {spare : Nat → Bool} {held : Bool}
set_option maxRecDepth 100000 in
/-- A step's cells, read. -/
theorem step_cells {c : List Value} {fuel : Nat} {y : DataW H × List MemPlace} (hc : c.length = 36) (h : DataW.trod enc Try.prog W base spare held fuel 75 c = some y) : ∃ s : StW, c = s.V ∧ s.kb.length = 32 ∧ ∀ x ∈ s.kb, x < 256 := by
  obtain ⟨xs, m, _, _, _, hxl, hg⟩ := DataW.trod_struct Try.underlying75 h
  obtain ⟨z0, z1, z2, z3, z4, rfl⟩ := list5P hxl
  have ki : Try.prog.cellsOf 3 = 1 := by kernel_rfl
  have k32 : Try.prog.cellsOf 51 = 32 := by kernel_rfl
  have g0 : DataW.trod enc Try.prog W base spare held m 3 ((c.drop 0).take (Try.prog.cellsOf 3)) = some z0 := hg 0 _ rfl
  have g1 : DataW.trod enc Try.prog W base spare held m 3 ((c.drop 1).take (Try.prog.cellsOf 3)) = some z1 := hg 1 _ rfl
  have g2 : DataW.trod enc Try.prog W base spare held m 51 ((c.drop 2).take (Try.prog.cellsOf 51)) = some z2 := hg 2 _ rfl
  have g3 : DataW.trod enc Try.prog W base spare held m 3 ((c.drop 34).take (Try.prog.cellsOf 3)) = some z3 := hg 3 _ rfl
  have g4 : DataW.trod enc Try.prog W base spare held m 3 ((c.drop 35).take (Try.prog.cellsOf 3)) = some z4 := hg 4 _ rfl
  rw [ki] at g0 g1 g3 g4
  rw [k32] at g2
  obtain ⟨i0, e0, _, _⟩ := DataW.trod_int Try.underlying3 g0
  obtain ⟨i1, e1, _, _⟩ := DataW.trod_int Try.underlying3 g1
  obtain ⟨i3, e3, _, _⟩ := DataW.trod_int Try.underlying3 g3
  obtain ⟨i4, e4, _, _⟩ := DataW.trod_int Try.underlying3 g4
  obtain ⟨l, e2, hl, hlt⟩ := kcells_u8s Try.underlying51 Try.underlying5 (by kernel_rfl) k32 g2
  refine ⟨⟨i0, i1, l, i3, i4⟩, ?_, hl, hlt⟩
  have s0 := cut_atP c 0 1
  have s1 := cut_atP c 1 1
  have s2 := cut_atP c 2 32
  have s3 := cut_atP c 34 1
  have s4 := cut_atP c 35 1
  rw [List.drop_eq_nil_of_le (show c.length ≤ 35 + 1 by omega), List.append_nil] at s4
  rw [List.drop_zero] at s0
  rw [List.drop_zero] at e0
  rw [s0, s1, s2, s3, s4, e0, e1, e2, e3, e4]
  unfold StW.V stepV
  simp
end
set_option maxRecDepth 100000 in
theorem bloomPlays_calls {H : Type} {enc : TypeId × Value → H} (W : World) (base : Nat) (v0 : Value) (d0 : DataW H) (p0 : List MemPlace)
    (o0 : Value.okWide Try.prog W .any base 68 v0) (h0 : DataW.Trod enc Try.prog W 0 (fun _ => true) true 68 v0 d0 p0)
    (hsz : (DataW.weightsEach Try.prog [68] [d0]).all (· ≤ reachBytes) = true) :
    Calls Try.prog 11 #[v0] W fun e W' => e = .returned (.bool true) ∧ Below W.heap.size W W' := by
  obtain ⟨cs, rfl, hcs⟩ := okWide_struct Try.underlying68 o0
  obtain ⟨c0, c1, c2, c3, c4, rfl⟩ := array5P (hcs.trans (by kernel_rfl))
  obtain ⟨fuel, hf0⟩ := h0
  have ko : Value.cells (.agg #[c0, c1, c2, c3, c4]) = #[c0, c1, c2, c3, c4] := rfl
  obtain ⟨xs, m, _, hx, _, hxl, hg⟩ := DataW.trod_struct Try.underlying68 hf0
  obtain ⟨z0, z1, z2, rfl⟩ := list3P hxl
  have ka : Try.prog.cellsOf 65 = 2 := by kernel_rfl
  have ki : Try.prog.cellsOf 3 = 1 := by kernel_rfl
  have kk : Try.prog.cellsOf 66 = 1 := by kernel_rfl
  have k36 : Try.prog.cellsOf 75 = 36 := by kernel_rfl
  have g0 := hg 0 _ rfl
  have g1 := hg 1 _ rfl
  have g2 := hg 2 _ rfl
  simp [ko, ka] at g0
  simp [ko, ka] at g1
  simp [ko, kk] at g2
  obtain ⟨us, n2, _, _, _, hul, hu⟩ := DataW.trod_array Try.underlying65 g0
  obtain ⟨vs, n3, _, _, _, hvl, hv⟩ := DataW.trod_array Try.underlying65 g1
  obtain ⟨u0, u1, rfl⟩ := list2P hul
  obtain ⟨v0, v1, rfl⟩ := list2P hvl
  have a0 := hu 0 (by omega)
  have a1 := hu 1 (by omega)
  have a2 := hv 0 (by omega)
  have a3 := hv 1 (by omega)
  rw [ki] at a0 a1 a2 a3
  simp at a0 a1 a2 a3
  obtain ⟨b0, rfl, _⟩ := cell_i64 Try.underlying3 a0
  obtain ⟨b1, rfl, _⟩ := cell_i64 Try.underlying3 a1
  obtain ⟨h0, rfl, _⟩ := cell_i64 Try.underlying3 a2
  obtain ⟨h1, rfl, _⟩ := cell_i64 Try.underlying3 a3
  obtain ⟨A1, n1, q1, V1, e1, _, _, r1, hh1, f1, y1⟩ := arg_slice (size := 36) Try.underlying66 k36 (by decide) g2
  injection e1 with e1 _
  subst e1
  simp only [Prod.mk.injEq] at hx
  obtain ⟨rfl, _⟩ := hx
  have hp := reach_struct (j := 0) hsz rfl rfl Try.underlying68
  have l1 := hh1.reach (j := 2) (size := 64) hp rfl rfl Try.underlying66 (by kernel_rfl)
  have hst : ∃ st : Nat → StW, ∀ i, i < n1 → ((List.range 36).map fun j => V1 (i * 36 + j)) = (st i).V ∧ (st i).kb.length = 32 ∧ ∀ x ∈ (st i).kb, x < 256 := by
    have h1 : ∀ i, i < n1 → ∃ s : StW, ((List.range 36).map fun j => V1 (i * 36 + j)) = s.V ∧ s.kb.length = 32 ∧ ∀ x ∈ s.kb, x < 256 := fun i hi => by
      obtain ⟨y, hy⟩ := y1 i hi
      exact step_cells (by simp) hy
    exact ⟨fun i => if h : i < n1 then Classical.choose (h1 i h) else ⟨0, 0, [], 0, 0⟩, fun i hi => by simp only [hi, dif_pos]; exact Classical.choose_spec (h1 i hi)⟩
  obtain ⟨st, hst⟩ := hst
  refine plays_any W b0 b1 h0 h1 A1 n1 q1 st ⟨fun i hi => (hst i hi).2.1, fun i hi => (hst i hi).2.2, fun hn => ?_⟩ (by omega)
  obtain ⟨b, off, e1, e2, e3⟩ := r1 (Nat.mul_pos hn (by decide))
  refine ⟨b, off, e1, e2, fun i hi j v hv => ?_⟩
  have hj : j < 36 := by
    have := (List.getElem?_eq_some_iff.1 hv).1
    rw [← (hst i hi).1] at this
    simpa using this
  rw [← (hst i hi).1] at hv
  simp [hj] at hv
  have := e3 (i * 36 + j) (by omega)
  rw [← hv, Nat.add_assoc]
  exact this
end Go.Proofs.Ytlghgfnkckaebaa
