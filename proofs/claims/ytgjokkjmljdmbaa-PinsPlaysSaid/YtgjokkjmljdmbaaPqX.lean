/- PinsPlays: the argument opened. -/
import Derived.Test.YtgjokkjmljdmbaaPqW
import Derived.Test.YtgjokkjmljdmbaaArgs
import Derived.ProofKit
import Derived.OpenShut
namespace Go.Proofs.Ytgjokkjmljdmbaa
open Go.RowKit Go.ChangeShapes Go.WideShapes
set_option linter.unusedVariables false

section
variable {H : Type} {enc : TypeId × Value → H} {P : Program} {W : World} {base : Nat} {spare : Nat → Bool} {held : Bool}
theorem cut_atQ {α : Type} (L : List α) (i n : Nat) : L.drop i = (L.drop i).take n ++ L.drop (i + n) := by
  have := List.take_append_drop n (L.drop i)
  rw [List.drop_drop] at this
  exact this.symm
/-- An array of bytes: its numbers. -/
theorem cells_keyQ {t e : TypeId} {n fuel : Nat} {cs : List Value} {x : DataW H × List MemPlace} (ht : P.underlying t = some (.array n e)) (he : P.underlying e = some (.int .u8)) (hc : P.cellsOf e = 1) (hl : P.cellsOf t = n)
    (h : DataW.trod enc P W base spare held fuel t cs = some x) : ∃ l : List Nat, cs = u8s l ∧ l.length = n ∧ ∀ b ∈ l, b < 256 := by
  obtain ⟨xs, m, _, _, hcl, hxl, hg⟩ := DataW.trod_array ht h
  rw [hl] at hcl
  have h1 : ∀ i, i < n → ∃ b : Nat, cs[i]? = some (.int .u8 (b : Int)) ∧ b < 256 := fun i hi => by
    have hg1 := hg i hi
    rw [hc, Nat.mul_one, List.getElem?_eq_getElem (by omega), List.drop_eq_getElem_cons (by omega)] at hg1
    simp only [List.take_succ_cons, List.take_zero] at hg1
    obtain ⟨b, hb, hlt⟩ := cell_u8 he hg1
    exact ⟨b, by rw [List.getElem?_eq_getElem (by omega), hb], hlt⟩
  obtain ⟨l, rfl, hb⟩ := all_u8s cs fun i hi => h1 i (by omega)
  rw [u8s_length] at hcl
  exact ⟨l, rfl, hcl, hb⟩
theorem step_openQ {n : Nat} {c : List Value} {y : DataW H × List MemPlace} (h : DataW.trod enc Try.prog W base spare held n 46 c = some y) (hc : c.length = 36) :
    ∃ z : StT, c = encT z ∧ IsK z.k := by
  have kki : Try.prog.cellsOf 3 = 1 := by kernel_rfl
  have kkb : Try.prog.cellsOf 4 = 1 := by kernel_rfl
  have kkk : Try.prog.cellsOf 29 = 32 := by kernel_rfl
  have kku : Try.prog.cellsOf 5 = 1 := by kernel_rfl
  obtain ⟨xs, m, _, hx, _, hxl, hg⟩ := DataW.trod_struct Try.underlying46 h
  match xs, hxl with
  | [x0, x1, x2, x3, x4], _ =>
    have g0 : DataW.trod enc Try.prog W base spare held m 3 ((c.drop 0).take (Try.prog.cellsOf 3)) = some x0 := hg 0 _ rfl
    have g1 : DataW.trod enc Try.prog W base spare held m 4 ((c.drop 1).take (Try.prog.cellsOf 4)) = some x1 := hg 1 _ rfl
    have g2 : DataW.trod enc Try.prog W base spare held m 3 ((c.drop 2).take (Try.prog.cellsOf 3)) = some x2 := hg 2 _ rfl
    have g3 : DataW.trod enc Try.prog W base spare held m 29 ((c.drop 3).take (Try.prog.cellsOf 29)) = some x3 := hg 3 _ rfl
    have g4 : DataW.trod enc Try.prog W base spare held m 4 ((c.drop 35).take (Try.prog.cellsOf 4)) = some x4 := hg 4 _ rfl
    rw [kki] at g0 g2
    rw [kkb] at g1 g4
    rw [kkk] at g3
    obtain ⟨i, e0, _⟩ := DataW.trod_int Try.underlying3 g0
    obtain ⟨o, e1, _⟩ := DataW.trod_bool Try.underlying4 g1
    obtain ⟨s, e2, _⟩ := DataW.trod_int Try.underlying3 g2
    obtain ⟨k, e3, hk1, hk2⟩ := cells_keyQ Try.underlying29 Try.underlying5 kku kkk g3
    obtain ⟨al, e4, _⟩ := DataW.trod_bool Try.underlying4 g4
    refine ⟨⟨i, o, s, k, al⟩, ?_, ⟨hk1, hk2⟩⟩
    have s0 := cut_atQ c 0 1
    have s1 := cut_atQ c 1 1
    have s2 := cut_atQ c 2 1
    have s3 := cut_atQ c 3 32
    have s4 := cut_atQ c 35 1
    rw [List.drop_eq_nil_of_le (show c.length ≤ 35 + 1 by omega), List.append_nil] at s4
    rw [List.drop_zero] at s0
    rw [List.drop_zero] at e0
    rw [s0, s1, s2, s3, s4, e0, e1, e2, e3, e4]
    rfl
end
section
variable {H : Type} {enc : TypeId × Value → H}
set_option maxRecDepth 100000 in
theorem pinsPlays_calls (W : World) (base : Nat) (v0 : Value) (d0 : DataW H) (p0 : List MemPlace)
    (o0 : Value.okWide Try.prog W .any base 40 v0) (h0 : DataW.Trod enc Try.prog W 0 (fun _ => true) true 40 v0 d0 p0)
    (hsz : (DataW.weightsEach Try.prog [40] [d0]).all (· ≤ reachBytes) = true) :
    Calls Try.prog 4 #[v0] W fun e W' => e = .returned (.bool true) ∧ Below W.heap.size W W' := by
  have k36 : Try.prog.cellsOf 46 = 36 := by kernel_rfl
  obtain ⟨A, len, cap, V, rfl, hlc, hcm, hrd, hheld, n, h5⟩ := arg_slice_v (size := 36) Try.underlying40 k36 (by decide) o0 h0
  have hlen := hheld.reach (size := 64) (j := 0) hsz rfl rfl Try.underlying40 (by kernel_rfl)
  have h6 : ∀ i, i < len → ∃ z : StT, ((List.range 36).map fun j => V (i * 36 + j)) = encT z ∧ IsK z.k := fun i hi => by
    obtain ⟨y, hy⟩ := h5 i hi
    exact step_openQ hy (by simp)
  have h7 : ∃ xs : List StT, xs.length = len ∧ ∀ i, i < len → ∃ z, xs[i]? = some z ∧ ((List.range 36).map fun j => V (i * 36 + j)) = encT z ∧ IsK z.k := by
    clear hrd h5 hheld hlc hlen o0 h0
    induction len with
    | zero => exact ⟨[], rfl, fun i hi => absurd hi (by omega)⟩
    | succ k ih =>
      obtain ⟨xs, hl, hz⟩ := ih fun i hi => h6 i (by omega)
      obtain ⟨z, hzz⟩ := h6 k (by omega)
      refine ⟨xs ++ [z], by simp [hl], fun i hi => ?_⟩
      by_cases hik : i < k
      · obtain ⟨z', h', r'⟩ := hz i hik
        exact ⟨z', by rw [List.getElem?_append_left (by omega)]; exact h', r'⟩
      · obtain rfl : i = k := by omega
        exact ⟨z, by simp [← hl], hzz⟩
  obtain ⟨xs, hxl, hz⟩ := h7
  refine pinsPlays_any W A len cap xs hxl (by omega) fun k z hk => ?_
  have hkl : k < len := by
    have := (List.getElem?_eq_some_iff.1 hk).1
    omega
  obtain ⟨z', e1, e2, e3⟩ := hz k hkl
  rw [hk] at e1
  cases e1
  obtain ⟨b, off, rfl, hb, hc⟩ := hrd (by omega)
  refine ⟨e3, b, off, rfl, hb, fun j v hv => ?_⟩
  rw [← e2] at hv
  have hj : j < 36 := by
    have := (List.getElem?_eq_some_iff.1 hv).1
    simpa using this
  rw [List.getElem?_map, List.getElem?_range hj] at hv
  simp only [Option.map_some, Option.some.injEq] at hv
  have := hc (k * 36 + j) (by omega)
  rw [Nat.add_assoc, this, hv]
end
end Go.Proofs.Ytgjokkjmljdmbaa
